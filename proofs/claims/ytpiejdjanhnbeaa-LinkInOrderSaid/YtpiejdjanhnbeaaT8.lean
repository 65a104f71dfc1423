/- The functions' equations, all parts. -/
import Derived.Test.YtpiejdjanhnbeaaT6
import Derived.Test.YtpiejdjanhnbeaaT7
import Derived.Test.YtpiejdjanhnbeaaT4
import Derived.Test.YtpiejdjanhnbeaaT5
import Derived.KernelRfl
import Derived.Test.YtpiejdjanhnbeaaProg
import Derived.Shelf.Strings.Builder1
import Derived.Tactics
import Derived.Tactics2
import Derived.WalkKit
import Derived.Shelf.SlIterI.Nil
import Derived.Shelf.SortM.Plain
import Derived.Shelf.SortM.SortNone
import Derived.Ground.GgzProg
import Derived.Ground.SlgmProg


/- Numbers, texts and truth values as bytes: the program's and the answer's. -/
set_option linter.unusedVariables false
set_option linter.unusedSimpArgs false
set_option maxHeartbeats 4000000
namespace Go.Proofs.Ytpiejdjanhnbeaa
open Go Go.Sk
abbrev VecT : Type := Int × Int
abbrev cVec : Ty := .pair (.int .i64) (.int .i64)

/-! ### Uint -/
theorem tmod128 (n : Nat) : Int.tmod (n : Int) 128 = ((n % 128 : Nat) : Int) := tmod_nat n 128
theorem tdiv128 (n : Nat) : Int.tdiv (n : Int) 128 = ((n / 128 : Nat) : Int) := tdiv_nat n 128
theorem byte_w (n : Nat) : IntKind.u8.wrap (IntKind.u8.wrap (Int.tmod (n : Int) 128) + 128) = ((128 + n % 128 : Nat) : Int) := by
  rw [tmod128, wrap_u8, wrap_u8]; omega
theorem byte_r (n : Nat) : IntKind.u8.wrap (IntKind.u64.wrap (128 + Int.tmod (n : Int) 128)) = ((128 + n % 128 : Nat) : Int) := by
  rw [tmod128, wrap_u8, wrap_u64]; omega
theorem half (n : Nat) (h : n < 18446744073709551616) : IntKind.u64.wrap (Int.tdiv (n : Int) 128) = ((n / 128 : Nat) : Int) := by
  rw [tdiv128, u64_nat (by omega)]
abbrev ints (l : List Nat) : List Int := l.map fun n : Nat => (n : Int)
theorem wUint_j (n : Nat) : ∀ (o : List Int), n < 18446744073709551616 → o.length + (uvL n).length ≤ 1000 → wire_Uint.j0 (n : Int) o = some (bytesOf (o ++ ints (uvL n))) := by
  induction n using Nat.strongRecOn with
  | ind n ih =>
    intro o hn hl
    rw [wire_Uint.j0_eq]
    by_cases h : n < 128
    · rw [uvL_small h] at hl ⊢
      simp only [List.length_singleton] at hl
      rw [decide_eq_false (show ¬ (n : Int) ≥ 128 by omega), cond_false, u8_nat (by omega)]
      simp only [Int.toNat_natCast, List.take_length, List.drop_zero, List.length_singleton, Int.le_refl, decide_true, Bool.and_true, cond_dec, ← Bool.decide_and]
      rw [if_pos (by omega), show (decide (o.length = 0) || decide (0 < 1)) = true by simp, Bool.true_and, cond_dec, if_pos (by omega)]
      rfl
    · rw [uvL_big h] at hl ⊢
      simp only [List.length_cons] at hl
      rw [decide_eq_true (show (n : Int) ≥ 128 by omega), cond_true, byte_w, half n hn, List.length_singleton, cond_dec, if_pos (by omega), ih (n / 128) (by omega) _ (by omega) (by simp; omega)]
      simp [ints]
theorem wUint (n : Nat) (h : n < 18446744073709551616) : wire_Uint.f (n : Int) = some (uvT n) := by
  have := uvL_len10 h
  rw [wire_Uint.f_eq, wUint_j n [] h (by simp; omega), List.nil_append, txt_bytes]
  rfl
/-! ### Int -/
def ivT (n : Int) : ByteArray := uvT (zz n)
theorem wInt (n : Int) (h : I64 n) : wire_Int.f n = some (ivT n) := by
  rw [wire_Int.f_eq, zz_prog h, wUint _ (zz_lt h)]
  rfl
theorem ivT_size {n : Int} (h : I64 n) : (ivT n).size ≤ 10 := by
  unfold ivT uvT
  rw [txt_size]
  exact uvL_len10 (zz_lt h)
theorem ivT_pos (n : Int) : 0 < (ivT n).size := by
  unfold ivT uvT
  rw [txt_size]
  exact uvL_pos _
/-! ### TakeUint -/
theorem at_in {a k N : Nat} (h : a + k ≤ N) (hN : N ≤ 1000000) : IntKind.i64.wrap ((a : Int) + (k : Int)) = ((a + k : Nat) : Int) := by
  rw [wr_in (by omega) (by omega)]; rfl
theorem drop_get (l : List Nat) (p : Nat) (h : p < l.length) : l.drop p = l[p] :: l.drop (p + 1) := List.drop_eq_getElem_cons h
theorem k9 (k : Nat) : ((k : Int) == 9) = decide (k = 9) := by
  rw [beq_dec]; congr 1; apply propext; omega
theorem c0 (c : Nat) : ((c : Int) == 0) = decide (c = 0) := by
  rw [beq_dec]; congr 1; apply propext; omega
theorem mul_small {c k : Nat} (hk : k ≤ 9) (h : ¬ (k = 9 ∧ 1 < c)) : (c % 128) * 2 ^ (7 * k) < 18446744073709551616 := by
  rcases Nat.lt_or_ge k 9 with h5 | h5
  · have h6 : 2 ^ (7 * k) ≤ 2 ^ (7 * 8) := Nat.pow_le_pow_right (by omega) (by omega)
    have h7 : (c % 128) * 2 ^ (7 * k) ≤ 127 * 2 ^ (7 * 8) := Nat.mul_le_mul (by omega) h6
    have h8 : (2 : Nat) ^ (7 * 8) = 72057594037927936 := rfl
    omega
  · have h6 : k = 9 := by omega
    subst h6
    have h7 : (2 : Nat) ^ (7 * 9) = 9223372036854775808 := rfl
    rw [h7]
    omega
theorem next_small {n c k : Nat} (hn : n < 2 ^ (7 * k)) : n + (c % 128) * 2 ^ (7 * k) < 2 ^ (7 * (k + 1)) := by
  have h1 : 2 ^ (7 * (k + 1)) = 128 * 2 ^ (7 * k) := by rw [show 7 * (k + 1) = 7 * k + 7 by omega, Nat.pow_add, Nat.mul_comm]
  have h2 : (c % 128) * 2 ^ (7 * k) ≤ 127 * 2 ^ (7 * k) := Nat.mul_le_mul_right _ (by omega)
  omega
theorem lt64 {n k : Nat} (hk : k ≤ 9) (hn : n < 2 ^ (7 * k)) : n < 18446744073709551616 := by
  have h6 : 2 ^ (7 * k) ≤ 2 ^ (7 * 9) := Nat.pow_le_pow_right (by omega) (by omega)
  have h7 : (2 : Nat) ^ (7 * 9) = 9223372036854775808 := rfl
  omega
theorem wTake_j (s : ByteArray) (hs : s.size ≤ 100000) (a : Nat) : ∀ (m k n : Nat), k + m = 10 → a + k ≤ s.size → n < 2 ^ (7 * k) → wire_TakeUint.j0 s a n k = some (tkB ((bts s).drop (a + k)) n k (a + k)) := by
  intro m
  induction m with
  | zero =>
    intro k n hk ha hn
    obtain rfl : k = 10 := by omega
    rw [wire_TakeUint.j0_eq]
    cases (bts s).drop (a + 10) with
    | nil => rfl
    | cons c r => rfl
  | succ m ih =>
    intro k n hk ha hn
    rw [wire_TakeUint.j0_eq, decide_eq_true (show (k : Int) < 10 by omega), cond_true, at_in ha (by omega)]
    rcases Nat.lt_or_ge (a + k) s.size with hlt | hge
    · have hlt' : a + k < (bts s).length := by rw [bts_len]; exact hlt
      rw [decide_eq_false (show ¬ ((a + k : Nat) : Int) ≥ (s.size : Int) by omega), cond_false, byteAt_bts s _ hlt', Option.bind_some, drop_get _ _ hlt']
      generalize hce : (bts s)[a + k] = c
      have hc : c < 256 := by rw [← hce]; exact bts_lt s _ (List.getElem_mem _)
      have e1 : decide (0 ≤ IntKind.i64.wrap (7 * (k : Int))) = true := by rw [wr_in (by omega) (by omega)]; exact decide_eq_true (by omega)
      have e2 : IntKind.i64.wrap (((a + k : Nat) : Int) + 1) = ((a + k + 1 : Nat) : Int) := wr_succ hlt (by omega)
      have e3 : IntKind.i64.wrap ((k : Int) + 1) = ((k + 1 : Nat) : Int) := wr_succ (n := 10) (by omega) (by omega)
      rw [k9, tmod128, u64_nat (n := c % 128) (by omega), pow7 (k := k) (by omega), e1, e2, e3, c0]
      unfold tkB
      rw [if_neg (by omega)]
      by_cases hB : k = 9 ∧ 1 < c
      · rw [if_pos hB, decide_eq_true hB.1, cond_true, decide_eq_true (show (c : Int) > 1 by omega), cond_true]
      · rw [if_neg hB, or_add hn (mul_small (by omega) hB) (lt64 (by omega) hn)]
        have hrest : wire_TakeUint.j0 s a ((n + c % 128 * 2 ^ (7 * k) : Nat) : Int) ((k + 1 : Nat) : Int) = some (tkB ((bts s).drop (a + k + 1)) (n + c % 128 * 2 ^ (7 * k)) (k + 1) (a + k + 1)) :=
          ih (k + 1) _ (by omega) (by omega) (next_small hn)
        rw [hrest]
        by_cases hk9 : k = 9
        · have hc1 : c ≤ 1 := by omega
          rw [decide_eq_true hk9, cond_true, decide_eq_false (show ¬ (c : Int) > 1 by omega), cond_false, cond_true, decide_eq_true (show (c : Int) < 128 by omega), cond_true, if_pos (show c < 128 by omega), show c % 128 = c by omega]
          by_cases h0 : c = 0
          · rw [decide_eq_true h0, cond_true, decide_eq_true (show (k : Int) > 0 by omega), cond_true, if_pos (show c = 0 ∧ 0 < k by omega)]
          · rw [decide_eq_false h0, cond_false, if_neg (show ¬ (c = 0 ∧ 0 < k) by omega)]
        · rw [decide_eq_false hk9, cond_false, cond_true]
          by_cases h1 : c < 128
          · rw [decide_eq_true (show (c : Int) < 128 by omega), cond_true, if_pos h1, show c % 128 = c by omega]
            by_cases h0 : c = 0
            · rw [decide_eq_true h0, cond_true]
              by_cases hk0 : 0 < k
              · rw [decide_eq_true (show (k : Int) > 0 by omega), cond_true, if_pos ⟨h0, hk0⟩]
              · rw [decide_eq_false (show ¬ (k : Int) > 0 by omega), cond_false, if_neg (show ¬ (c = 0 ∧ 0 < k) by omega)]
            · rw [decide_eq_false h0, cond_false, if_neg (show ¬ (c = 0 ∧ 0 < k) by omega)]
          · rw [decide_eq_false (show ¬ (c : Int) < 128 by omega), cond_false, if_neg h1]
    · rw [decide_eq_true (show ((a + k : Nat) : Int) ≥ (s.size : Int) by omega), cond_true, List.drop_of_length_le (by rw [bts_len]; omega)]
      unfold tkB
      rw [if_pos (by omega)]
theorem wTakeU (s : ByteArray) (hs : s.size ≤ 100000) (a : Int) : wire_TakeUint.f s a = some (takeU s a) := by
  rw [wire_TakeUint.f_eq]
  unfold takeU
  rw [cond_dec, cond_dec]
  by_cases h0 : a < 0
  · rw [if_pos h0, if_pos h0]
  · rw [if_neg h0, if_neg h0]
    by_cases h1 : a > s.size
    · rw [if_pos h1, if_pos h1]
    · rw [if_neg h1, if_neg h1]
      obtain ⟨k, rfl⟩ : ∃ k : Nat, a = k := ⟨a.toNat, by omega⟩
      exact wTake_j s hs k 10 0 0 rfl (by omega) (by decide)
theorem takeU_fst (s : ByteArray) (a : Int) : ∃ u : Nat, (takeU s a).1 = u ∧ u < 18446744073709551616 := by
  unfold takeU
  split
  · exact ⟨0, rfl, by omega⟩
  split
  · exact ⟨0, rfl, by omega⟩
  exact tkB_fst _ _ _ _ (fun c hc => bts_lt s c (List.mem_of_mem_drop hc)) (by decide)
theorem takeU_snd (s : ByteArray) (a : Int) : ∃ q : Nat, (takeU s a).2.1 = q ∧ q ≤ s.size ∧ ((takeU s a).2.2 = 0 → 0 ≤ a ∧ a < q) := by
  unfold takeU
  split
  · exact ⟨0, rfl, by omega, fun h => by cases h⟩
  split
  · exact ⟨0, rfl, by omega, fun h => by cases h⟩
  obtain ⟨q, h1, h2, h3⟩ := tkB_snd ((bts s).drop a.toNat) 0 0 a.toNat
  refine ⟨q, h1, ?_, fun h => ?_⟩
  · rw [List.length_drop, bts_len] at h2
    omega
  · have := h3 h
    omega
/-- a number that stands there is read -/
theorem takeU_at (x y : ByteArray) (n : Nat) (hn : n < 18446744073709551616) : takeU (x ++ uvT n ++ y) x.size = ((n : Int), ((x.size + (uvT n).size : Nat) : Int), 0) := by
  have hb : (bts (x ++ uvT n ++ y)).drop x.size = uvL n ++ bts y := by
    rw [bts_append, bts_append, List.append_assoc, List.drop_left' (bts_len x)]
    unfold uvT
    rw [bts_txt (uvL_lt n)]
  unfold takeU
  rw [if_neg (by omega), if_neg (by rw [ByteArray.size_append, ByteArray.size_append]; omega), Int.toNat_natCast, hb, tkB_uv (bts y) n 0 0 x.size (by simpa using hn) (by omega)]
  simp [uvT, txt_size]
end Go.Proofs.Ytpiejdjanhnbeaa

/- Reading: numbers with a sign, counts, texts, truth values, commands. -/
set_option linter.unusedVariables false
set_option linter.unusedSimpArgs false
set_option maxHeartbeats 4000000
namespace Go.Proofs.Ytpiejdjanhnbeaa
open Go Go.Sk

/-! ### TakeInt -/
def takeI (s : ByteArray) (a : Int) : Int × Int × Int := if (takeU s a).2.2 ≠ 0 then (0, 0, (takeU s a).2.2) else (unzz (takeU s a).1.toNat, (takeU s a).2.1, 0)
theorem bne0 (e : Int) : (e != 0) = decide (e ≠ 0) := by
  rw [bne_dec]; by_cases h : e = 0 <;> simp [h]
theorem wTakeI (s : ByteArray) (hs : s.size ≤ 100000) (a : Int) : wire_TakeInt.f s a = some (takeI s a) := by
  rw [wire_TakeInt.f_eq, wTakeU s hs a, Option.bind_some, bne0, cond_dec]
  obtain ⟨u, h1, h2⟩ := takeU_fst s a
  unfold takeI
  split
  · rfl
  · rw [h1, unzz_prog h2]
    rfl
theorem takeI_in (s : ByteArray) (a : Int) : I64 (takeI s a).1 := by
  obtain ⟨u, h1, h2⟩ := takeU_fst s a
  unfold takeI
  split
  · exact (show I64 0 from ⟨by decide, by decide⟩)
  · rw [h1]; exact unzz_in h2
theorem takeI_bad {s : ByteArray} {a : Int} (h : (takeI s a).2.2 ≠ 0) : takeI s a = (0, 0, (takeI s a).2.2) := by
  unfold takeI at h ⊢
  split at h
  · rename_i h1; rw [if_pos h1]
  · exact absurd rfl h
theorem takeI_next {s : ByteArray} {a : Int} : 0 ≤ (takeI s a).2.1 ∧ (takeI s a).2.1 ≤ s.size := by
  obtain ⟨q, h1, h2, h3⟩ := takeU_snd s a
  unfold takeI
  split
  · exact ⟨by simp, by simp⟩
  · rw [h1]; exact ⟨by omega, by simpa using h2⟩
theorem takeI_at (x y : ByteArray) (n : Int) (hn : I64 n) : takeI (x ++ ivT n ++ y) x.size = (n, ((x.size + (ivT n).size : Nat) : Int), 0) := by
  unfold takeI ivT
  rw [takeU_at x y _ (zz_lt hn)]
  simp only [ne_eq, not_true, if_false, Int.toNat_natCast, unzz_zz]
/-! ### TakeCount -/
def takeC (s : ByteArray) (a most : Int) : Int × Int × Int :=
  if (takeU s a).2.2 ≠ 0 then (0, 0, (takeU s a).2.2) else if most < 0 then (0, 0, 2) else if (takeU s a).1 > most then (0, 0, 2) else if (takeU s a).1 > s.size - (takeU s a).2.1 then (0, 0, 4) else ((takeU s a).1, (takeU s a).2.1, 0)
theorem takeC_eq (s : ByteArray) (hs : s.size ≤ 100000) (a : Int) (most : Int) (hm0 : 0 ≤ most) (hm : most ≤ 1000000) :
    (bif ((takeU s a).2.2 != 0) then some ((0 : Int), (0 : Int), (takeU s a).2.2) else (bif (decide (most < 0)) then some (0, 0, 2) else (bif (decide ((takeU s a).1 > IntKind.u64.wrap most)) then some (0, 0, 2) else (bif (decide ((takeU s a).1 > IntKind.u64.wrap (IntKind.i64.wrap ((s.size : Int) - (takeU s a).2.1)))) then some (0, 0, 4) else some (IntKind.i64.wrap (takeU s a).1, (takeU s a).2.1, 0)))))
      = some (takeC s a most) := by
  obtain ⟨u, h1, h2⟩ := takeU_fst s a
  obtain ⟨q, h3, h4, h5⟩ := takeU_snd s a
  unfold takeC
  rw [bne0, cond_dec, cond_dec, cond_dec, cond_dec, h1, h3, wrap_u64, wr_in (x := (s.size : Int) - (q : Int)) (by omega) (by omega), wrap_u64]
  split
  · rfl
  split
  · rfl
  rw [show most % 18446744073709551616 = most by omega]
  split
  · rfl
  rw [show ((s.size : Int) - (q : Int)) % 18446744073709551616 = (s.size : Int) - (q : Int) by omega]
  split
  · rfl
  · rw [i64_nat (by omega)]
theorem wTakeC (s : ByteArray) (hs : s.size ≤ 100000) (a : Int) (most : Int) (hm0 : 0 ≤ most) (hm : most ≤ 1000000) : wire_TakeCount.f s a most = some (takeC s a most) := by
  rw [wire_TakeCount.f_eq, wTakeU s hs a, Option.bind_some]
  exact takeC_eq s hs a most hm0 hm
theorem takeC_bad {s : ByteArray} {a most : Int} (h : (takeC s a most).2.2 ≠ 0) : takeC s a most = (0, 0, (takeC s a most).2.2) := by
  unfold takeC at h ⊢
  split at h
  · rename_i h1; rw [if_pos h1]
  rename_i h1
  rw [if_neg h1]
  split at h
  · rename_i h1; rw [if_pos h1]
  rename_i h1
  rw [if_neg h1]
  split at h
  · rename_i h1; rw [if_pos h1]
  rename_i h1
  rw [if_neg h1]
  split at h
  · rename_i h1; rw [if_pos h1]
  · exact absurd rfl h
theorem takeC_ok {s : ByteArray} {a most : Int} (h : (takeC s a most).2.2 = 0) : ∃ n q : Nat, takeC s a most = ((n : Int), (q : Int), 0) ∧ (n : Int) ≤ most ∧ q + n ≤ s.size := by
  obtain ⟨u, h1, h2⟩ := takeU_fst s a
  obtain ⟨q, h3, h4, h5⟩ := takeU_snd s a
  unfold takeC at h ⊢
  split at h
  · rename_i h6; exact absurd h h6
  rename_i h6
  rw [if_neg h6]
  split at h
  · cases h
  rename_i h7
  rw [if_neg h7]
  split at h
  · cases h
  rename_i h8
  rw [if_neg h8]
  split at h
  · cases h
  rename_i h9
  rw [if_neg h9]
  rw [h1] at h8 h9 ⊢
  rw [h3] at h9 ⊢
  exact ⟨u, q, rfl, by omega, by omega⟩
theorem takeC_at (x y : ByteArray) (n : Nat) (most : Int) (hm : (n : Int) ≤ most) (hy : n ≤ y.size) (hn : n < 18446744073709551616) : takeC (x ++ uvT n ++ y) x.size most = ((n : Int), ((x.size + (uvT n).size : Nat) : Int), 0) := by
  unfold takeC
  rw [takeU_at x y n hn]
  rw [if_neg (by simp), if_neg (by omega), if_neg (show ¬ ((n : Int) > most) by omega), if_neg (show ¬ ((n : Int) > ((x ++ uvT n ++ y).size : Int) - ((x.size + (uvT n).size : Nat) : Int)) by rw [ByteArray.size_append, ByteArray.size_append]; omega)]
/-! ### texts, truth values -/
def takeT (s : ByteArray) (a most : Int) : ByteArray × Int × Int :=
  if (takeC s a most).2.2 ≠ 0 then (⟨#[]⟩, 0, (takeC s a most).2.2) else (s.extract (takeC s a most).2.1.toNat ((takeC s a most).2.1 + (takeC s a most).1).toNat, (takeC s a most).2.1 + (takeC s a most).1, 0)
theorem extract_bytes (s : ByteArray) (q n : Nat) : bytesOf (List.drop q (List.take n (List.map (fun b : UInt8 => ((b.toNat : Nat) : Int)) s.data.toList))) = s.extract q n := by
  apply ByteArray.ext
  rw [ByteArray.data_extract]
  apply Array.ext'
  have e : ((fun n : Int => UInt8.ofNat n.toNat) ∘ fun b : UInt8 => ((b.toNat : Nat) : Int)) = id := by funext x; simp
  simp only [bytesOf, Array.toList_extract, List.map_drop, List.map_take, List.map_map, e, List.map_id, List.extract_eq_take_drop]
  rw [List.drop_take]
theorem wTakeT (s : ByteArray) (hs : s.size ≤ 100000) (a : Int) (most : Int) (hm0 : 0 ≤ most) (hm : most ≤ 1000000) : wire_TakeText.f s a most = some (takeT s a most) := by
  rw [wire_TakeText.f_eq, wTakeC s hs a most hm0 hm, Option.bind_some, bne0, cond_dec]
  unfold takeT
  split
  · rfl
  rename_i h
  obtain ⟨n, q, h1, h2, h3⟩ := takeC_ok (Classical.byContradiction fun h' => h h')
  rw [h1]
  simp only
  rw [at_in (a := q) (k := n) h3 (by omega), List.length_map, Array.length_toList, show s.data.size = s.size from rfl,
    decide_eq_true (show (0 : Int) ≤ (q : Int) by omega), decide_eq_true (show (q : Int) ≤ ((q + n : Nat) : Int) by omega), decide_eq_true (show ((q + n : Nat) : Int) ≤ (s.size : Int) by omega)]
  simp only [decide_true, Bool.and_true, cond_true, Int.toNat_natCast, extract_bytes]
  rw [show ((q : Int) + (n : Int)) = ((q + n : Nat) : Int) from rfl, Int.toNat_natCast]
theorem takeT_bad {s : ByteArray} {a most : Int} (h : (takeT s a most).2.2 ≠ 0) : takeT s a most = (⟨#[]⟩, 0, (takeT s a most).2.2) := by
  unfold takeT at h ⊢
  split at h
  · rename_i h1; rw [if_pos h1]
  · exact absurd rfl h
theorem takeT_next {s : ByteArray} {a most : Int} : 0 ≤ (takeT s a most).2.1 ∧ (takeT s a most).2.1 ≤ s.size := by
  unfold takeT
  split
  · exact ⟨by simp, by simp⟩
  · rename_i h
    obtain ⟨n, q, h1, h2, h3⟩ := takeC_ok (Classical.byContradiction fun h' => h h')
    rw [h1]
    exact ⟨by simp only; omega, by simp only; omega⟩
def tvT (t : ByteArray) : ByteArray := uvT t.size ++ t
theorem wText (t : ByteArray) (h : t.size ≤ 1000000) : wire_Text.f t = some (tvT t) := by
  have := uvL_len10 (n := t.size) (by omega)
  rw [wire_Text.f_eq, u64_nat (by omega), wUint _ (by omega), Option.bind_some, cond_dec, if_pos (by unfold uvT; rw [txt_size]; omega)]
  rfl
theorem tvT_size {t : ByteArray} (h : t.size ≤ 1000000) : (tvT t).size ≤ 10 + t.size := by
  have := uvL_len10 (n := t.size) (by omega)
  unfold tvT uvT
  rw [ByteArray.size_append, txt_size]
  omega
theorem takeT_at (x y t : ByteArray) (most : Int) (hm : (t.size : Int) ≤ most) (ht : t.size ≤ 1000000) : takeT (x ++ tvT t ++ y) x.size most = (t, ((x.size + (tvT t).size : Nat) : Int), 0) := by
  have e : x ++ tvT t ++ y = x ++ uvT t.size ++ (t ++ y) := by unfold tvT; simp [ByteArray.append_assoc]
  unfold takeT
  rw [e, takeC_at x (t ++ y) t.size most hm (by rw [ByteArray.size_append]; omega) (by omega)]
  rw [if_neg (by simp)]
  simp only [Int.toNat_natCast]
  have e2 : ((x.size + (uvT t.size).size : Nat) : Int) + (t.size : Int) = ((x.size + (tvT t).size : Nat) : Int) := by
    unfold tvT; rw [ByteArray.size_append]; omega
  rw [e2, Int.toNat_natCast]
  congr 1
  apply bts_inj
  have e3 : x ++ uvT t.size ++ (t ++ y) = (x ++ uvT t.size) ++ t ++ y := by simp [ByteArray.append_assoc]
  rw [e3]
  have e4 : x.size + (tvT t).size = (x ++ uvT t.size ++ t).size := by unfold tvT; simp only [ByteArray.size_append]; omega
  have e5 : x.size + (uvT t.size).size = (x ++ uvT t.size).size := by simp only [ByteArray.size_append]
  rw [e4, e5]
  have key : ∀ (p t y : ByteArray), bts ((p ++ t ++ y).extract p.size (p ++ t).size) = bts t := fun p t y => by
    unfold bts
    rw [ByteArray.data_extract]
    simp only [Array.toList_extract, ByteArray.data_append, Array.toList_append, List.extract_eq_take_drop, ByteArray.size_append]
    rw [List.append_assoc, List.drop_left' (by rw [Array.length_toList]; rfl), Nat.add_sub_cancel_left, List.take_left' (by rw [Array.length_toList]; rfl)]
  exact key _ _ _
def bvT (b : Bool) : ByteArray := txt [b.toNat]
theorem wBool (b : Bool) : wire_Bool.f b = some (bvT b) := by
  rw [wire_Bool.f_eq]; cases b <;> rfl
theorem bvT_size (b : Bool) : (bvT b).size = 1 := rfl
def takeB (s : ByteArray) (a : Int) : Bool × Int × Int :=
  if a < 0 then (false, 0, 1) else if a > s.size then (false, 0, 1) else if a = s.size then (false, 0, 4) else if ((bts s)[a.toNat]?).getD 0 > 1 then (false, 0, 5) else (decide (((bts s)[a.toNat]?).getD 0 = 1), a + 1, 0)
theorem takeB_eq (s : ByteArray) (hs : s.size ≤ 100000) (a : Int) :
    (bif (decide (a < 0)) then some (false, (0 : Int), (1 : Int)) else (bif (decide (a > (s.size : Int))) then some (false, 0, 1) else (bif (a == (s.size : Int)) then some (false, 0, 4) else ((byteAt s a).bind fun e0 => (bif (decide (e0 > 1)) then some (false, 0, 5) else ((byteAt s a).bind fun e1 => some (e1 == 1, IntKind.i64.wrap (a + 1), 0))))))) = some (takeB s a) := by
  unfold takeB
  rw [cond_dec, cond_dec]
  split
  · rfl
  split
  · rfl
  rename_i h0 h1
  obtain ⟨k, rfl⟩ : ∃ k : Nat, a = k := ⟨a.toNat, by omega⟩
  rw [beq_dec, cond_dec]
  split
  · rfl
  rename_i h2
  have hlt : k < (bts s).length := by rw [bts_len]; omega
  rw [byteAt_bts s k hlt, Option.bind_some, Option.bind_some, Int.toNat_natCast, List.getElem?_eq_getElem hlt, Option.getD_some, cond_dec]
  generalize (bts s)[k] = c
  by_cases h3 : c > 1
  · rw [if_pos h3, if_pos (show (c : Int) > 1 by omega)]
  · rw [if_neg h3, if_neg (show ¬ (c : Int) > 1 by omega), wr_in (by omega) (by omega), beq_dec]
    congr 2
    apply decide_eq_decide.2
    omega
theorem wTakeB (s : ByteArray) (hs : s.size ≤ 100000) (a : Int) : wire_TakeBool.f s a = some (takeB s a) := by
  rw [wire_TakeBool.f_eq]; exact takeB_eq s hs a
theorem takeB_bad {s : ByteArray} {a : Int} (h : (takeB s a).2.2 ≠ 0) : takeB s a = (false, 0, (takeB s a).2.2) := by
  unfold takeB at h ⊢
  split at h
  · rename_i h1; rw [if_pos h1]
  rename_i h1
  rw [if_neg h1]
  split at h
  · rename_i h1; rw [if_pos h1]
  rename_i h1
  rw [if_neg h1]
  split at h
  · rename_i h1; rw [if_pos h1]
  rename_i h1
  rw [if_neg h1]
  split at h
  · rename_i h1; rw [if_pos h1]
  · exact absurd rfl h
theorem takeB_at (x y : ByteArray) (b : Bool) : takeB (x ++ bvT b ++ y) x.size = (b, ((x.size + (bvT b).size : Nat) : Int), 0) := by
  have hb : (bts (x ++ bvT b ++ y))[x.size]? = some b.toNat := by
    rw [bts_append, bts_append, List.append_assoc, List.getElem?_append_right (by rw [bts_len]; exact Nat.le_refl _), bts_len, Nat.sub_self]
    cases b <;> rfl
  have h1 : (x ++ bvT b ++ y).size = x.size + 1 + y.size := by rw [ByteArray.size_append, ByteArray.size_append, bvT_size]
  unfold takeB
  rw [if_neg (by omega), if_neg (by rw [h1]; omega), if_neg (by rw [h1]; omega), Int.toNat_natCast, hb, Option.getD_some, bvT_size]
  cases b <;> rfl
end Go.Proofs.Ytpiejdjanhnbeaa

/- Commands as bytes. -/
set_option linter.unusedVariables false
set_option linter.unusedSimpArgs false
set_option maxHeartbeats 4000000
namespace Go.Proofs.Ytpiejdjanhnbeaa
open Go Go.Sk

/-! ### reading on -/
def bindR {α β : Type} (r : α × Int × Int) (d : β) (k : α → Int → β × Int × Int) : β × Int × Int := if r.2.2 ≠ 0 then (d, 0, r.2.2) else k r.1 r.2.1
theorem bindR_bad {α β : Type} {r : α × Int × Int} {d : β} {k : α → Int → β × Int × Int} (h : r.2.2 ≠ 0) : bindR r d k = (d, 0, r.2.2) := if_pos h
theorem bindR_ok {α β : Type} {r : α × Int × Int} {d : β} {k : α → Int → β × Int × Int} (h : r.2.2 = 0) : bindR r d k = k r.1 r.2.1 := if_neg (fun h' => h' h)
theorem bindR_err {α β : Type} {x : α} {y e : Int} {d : β} {k : α → Int → β × Int × Int} (h : e ≠ 0) : bindR (x, y, e) d k = (d, 0, e) := if_pos h
def intsS (s : ByteArray) : Nat → Int → List Int × Int × Int
  | 0, a => ([], a, 0)
  | n + 1, a => bindR (takeI s a) [] fun v a1 => bindR (intsS s n a1) [] fun l a2 => (v :: l, a2, 0)
abbrev zeroC : CommandT := (0, 0, [], (0, 0), 0, 0, { data := #[] }, false)
/-- a command of a text, from a place on -/
def decC (s : ByteArray) (a : Int) : CommandT × Int × Int :=
  bindR (takeI s a) zeroC fun p a1 => bindR (takeI s a1) zeroC fun k a2 => bindR (takeC s a2 64) zeroC fun n a3 => bindR (intsS s n.toNat a3) zeroC fun l a4 =>
  bindR (takeI s a4) zeroC fun x a5 => bindR (takeI s a5) zeroC fun y a6 => bindR (takeI s a6) zeroC fun t a7 => bindR (takeI s a7) zeroC fun m a8 =>
  bindR (takeT s a8 12) zeroC fun nm a9 => bindR (takeB s a9) zeroC fun q a10 => ((p, k, l, (x, y), t, m, nm, q), a10, 0)

theorem takeC_n {s : ByteArray} {a : Int} (h : (takeC s a 64).2.2 = 0) : (takeC s a 64).1 = (((takeC s a 64).1.toNat : Nat) : Int) ∧ (takeC s a 64).1.toNat ≤ 64 := by
  obtain ⟨n, q, h1, h2, h3⟩ := takeC_ok h
  rw [h1]
  exact ⟨rfl, by simp only [Int.toNat_natCast]; omega⟩
theorem bne_t {e : Int} (h : e ≠ 0) : (e != 0) = true := by rw [bne0]; exact decide_eq_true h
theorem bne_f {e : Int} (h : e = 0) : (e != 0) = false := by rw [bne0]; exact decide_eq_false (fun h' => h' h)
/-! ### the reader -/
section
variable {s : ByteArray} (hs : s.size ≤ 100000) {a e : Int}
include hs
theorem num_ok (h : (takeI s a).2.2 = 0) : command_reader__number.f (s, a, 0) = some ((takeI s a).1, (s, (takeI s a).2.1, 0)) := by
  rw [command_reader__number.f_eq]
  show (bif (0 : Int) != 0 then _ else (wire_TakeInt.f s a).bind _) = _
  rw [show ((0 : Int) != 0) = false from rfl, cond_false, wTakeI s hs a, Option.bind_some, command_reader__next.f_eq, h]
  rfl
theorem num_err (h : (takeI s a).2.2 ≠ 0) : command_reader__number.f (s, a, 0) = some (0, (s, a, (takeI s a).2.2)) := by
  rw [command_reader__number.f_eq]
  show (bif (0 : Int) != 0 then _ else (wire_TakeInt.f s a).bind _) = _
  rw [show ((0 : Int) != 0) = false from rfl, cond_false, wTakeI s hs a, Option.bind_some, command_reader__next.f_eq, beq_eq_false_iff_ne.2 h, cond_false, takeI_bad h]
  rfl
omit hs in
theorem num_bad (h : e ≠ 0) : command_reader__number.f (s, a, e) = some (0, (s, a, e)) := by
  rw [command_reader__number.f_eq]
  show (bif e != 0 then _ else _) = _
  rw [bne0, decide_eq_true h, cond_true]
theorem name_ok (h : (takeT s a 12).2.2 = 0) : command_reader__name.f (s, a, 0) = some ((takeT s a 12).1, (s, (takeT s a 12).2.1, 0)) := by
  rw [command_reader__name.f_eq]
  show (bif (0 : Int) != 0 then _ else (wire_TakeText.f s a 12).bind _) = _
  rw [show ((0 : Int) != 0) = false from rfl, cond_false, wTakeT s hs a 12 (by omega) (by omega), Option.bind_some, command_reader__next.f_eq, h]
  rfl
theorem name_err (h : (takeT s a 12).2.2 ≠ 0) : ∃ t, command_reader__name.f (s, a, 0) = some (t, (s, a, (takeT s a 12).2.2)) := by
  rw [command_reader__name.f_eq]
  show ∃ t, (bif (0 : Int) != 0 then _ else (wire_TakeText.f s a 12).bind _) = _
  rw [show ((0 : Int) != 0) = false from rfl, cond_false, wTakeT s hs a 12 (by omega) (by omega), Option.bind_some, command_reader__next.f_eq, beq_eq_false_iff_ne.2 h, cond_false]
  exact ⟨_, rfl⟩
omit hs in
theorem name_bad (h : e ≠ 0) : command_reader__name.f (s, a, e) = some (⟨#[]⟩, (s, a, e)) := by
  rw [command_reader__name.f_eq]
  show (bif e != 0 then _ else _) = _
  rw [bne0, decide_eq_true h, cond_true]
theorem queued_ok (h : (takeB s a).2.2 = 0) : command_reader__queued.f (s, a, 0) = some ((takeB s a).1, (s, (takeB s a).2.1, 0)) := by
  rw [command_reader__queued.f_eq]
  show (bif (0 : Int) != 0 then _ else (wire_TakeBool.f s a).bind _) = _
  rw [show ((0 : Int) != 0) = false from rfl, cond_false, wTakeB s hs a, Option.bind_some, command_reader__next.f_eq, h]
  rfl
theorem queued_err (h : (takeB s a).2.2 ≠ 0) : ∃ t, command_reader__queued.f (s, a, 0) = some (t, (s, a, (takeB s a).2.2)) := by
  rw [command_reader__queued.f_eq]
  show ∃ t, (bif (0 : Int) != 0 then _ else (wire_TakeBool.f s a).bind _) = _
  rw [show ((0 : Int) != 0) = false from rfl, cond_false, wTakeB s hs a, Option.bind_some, command_reader__next.f_eq, beq_eq_false_iff_ne.2 h, cond_false]
  exact ⟨_, rfl⟩
omit hs in
theorem queued_bad (h : e ≠ 0) : command_reader__queued.f (s, a, e) = some (false, (s, a, e)) := by
  rw [command_reader__queued.f_eq]
  show (bif e != 0 then _ else _) = _
  rw [bne0, decide_eq_true h, cond_true]
theorem units_j (n : Nat) (hn : n ≤ 64) : ∀ (m i : Nat) (a : Int) (o : List Int), i + m = n → o.length = i →
    ((intsS s m a).2.2 = 0 → command_reader__units.j0 n i (s, a, 0) o = some (o ++ (intsS s m a).1, (s, (intsS s m a).2.1, 0))) ∧
    ((intsS s m a).2.2 ≠ 0 → ∃ l b, command_reader__units.j0 n i (s, a, 0) o = some (l, (s, b, (intsS s m a).2.2))) := by
  intro m
  induction m with
  | zero =>
    intro i a o hi ho
    refine ⟨fun _ => ?_, fun h => absurd rfl h⟩
    rw [command_reader__units.j0_eq, lt_false (by omega), cond_false]
    show _ = some (o ++ [], _)
    rw [List.append_nil]
    rfl
  | succ m ih =>
    intro i a o hi ho
    have hstep : command_reader__units.j0 n i (s, a, 0) o = ((command_reader__number.f (s, a, 0)).bind fun r0 => command_reader__units.j0 n ((i + 1 : Nat) : Int) r0.2 (o ++ [r0.1])) := by
      rw [command_reader__units.j0_eq, lt_true (by omega), cond_true]
      show (bif (0 : Int) == 0 then _ else _) = _
      rw [show ((0 : Int) == 0) = true from rfl, cond_true, wr_succ (n := n) (by omega) (by omega)]
      simp only [List.length_singleton, decide_eq_true (show (o.length + 1) * 8 ≤ 140737488355328 by omega), cond_true]
    by_cases h : (takeI s a).2.2 = 0
    · rw [hstep, num_ok hs h, Option.bind_some]
      obtain ⟨h1, h2⟩ := ih (i + 1) (takeI s a).2.1 (o ++ [(takeI s a).1]) (by omega) (by simp [ho])
      unfold intsS
      rw [bindR_ok h]
      by_cases h3 : (intsS s m (takeI s a).2.1).2.2 = 0
      · rw [bindR_ok h3]
        refine ⟨fun _ => ?_, fun h => absurd rfl h⟩
        rw [h1 h3]
        simp
      · rw [bindR_bad h3]
        exact ⟨fun h => absurd h h3, fun _ => h2 h3⟩
    · rw [hstep, num_err hs h, Option.bind_some]
      unfold intsS
      rw [bindR_bad h]
      refine ⟨fun h' => absurd h' h, fun _ => ?_⟩
      rw [command_reader__units.j0_eq]
      refine ⟨o ++ [0], a, ?_⟩
      show (bif decide (((i + 1 : Nat) : Int) < (n : Int)) then (bif (takeI s a).2.2 == 0 then _ else _) else _) = _
      rw [beq_eq_false_iff_ne.2 h, cond_false]
      cases decide (((i + 1 : Nat) : Int) < (n : Int)) <;> rfl
theorem units_ok (h : (takeC s a 64).2.2 = 0) (h2 : (intsS s (takeC s a 64).1.toNat (takeC s a 64).2.1).2.2 = 0) :
    command_reader__units.f (s, a, 0) = some ((intsS s (takeC s a 64).1.toNat (takeC s a 64).2.1).1, (s, (intsS s (takeC s a 64).1.toNat (takeC s a 64).2.1).2.1, 0)) := by
  obtain ⟨h4, h5⟩ := takeC_n h
  rw [command_reader__units.f_eq]
  show (bif (0 : Int) != 0 then _ else (wire_TakeCount.f s a 64).bind _) = _
  rw [show ((0 : Int) != 0) = false from rfl, cond_false, wTakeC s hs a 64 (by omega) (by omega), Option.bind_some, command_reader__next.f_eq, h]
  show command_reader__units.j0 (takeC s a 64).1 0 (s, (takeC s a 64).2.1, 0) [] = _
  have := (units_j hs _ h5 _ 0 (takeC s a 64).2.1 [] (by omega) rfl).1 h2
  rw [← h4] at this
  rw [show ((0 : Nat) : Int) = 0 from rfl] at this
  rw [this, List.nil_append]
theorem units_err (h : (takeC s a 64).2.2 ≠ 0) : ∃ l, command_reader__units.f (s, a, 0) = some (l, (s, a, (takeC s a 64).2.2)) := by
  rw [command_reader__units.f_eq]
  show ∃ l, (bif (0 : Int) != 0 then _ else (wire_TakeCount.f s a 64).bind _) = _
  rw [show ((0 : Int) != 0) = false from rfl, cond_false, wTakeC s hs a 64 (by omega) (by omega), Option.bind_some, command_reader__next.f_eq, beq_eq_false_iff_ne.2 h, cond_false, Option.bind_some, command_reader__units.j0_eq, takeC_bad h]
  exact ⟨[], rfl⟩
theorem units_err2 (h : (takeC s a 64).2.2 = 0) (h2 : (intsS s (takeC s a 64).1.toNat (takeC s a 64).2.1).2.2 ≠ 0) :
    ∃ l b, command_reader__units.f (s, a, 0) = some (l, (s, b, (intsS s (takeC s a 64).1.toNat (takeC s a 64).2.1).2.2)) := by
  obtain ⟨h4, h5⟩ := takeC_n h
  rw [command_reader__units.f_eq]
  show ∃ l b, (bif (0 : Int) != 0 then _ else (wire_TakeCount.f s a 64).bind _) = _
  rw [show ((0 : Int) != 0) = false from rfl, cond_false, wTakeC s hs a 64 (by omega) (by omega), Option.bind_some, command_reader__next.f_eq, h]
  show ∃ l b, command_reader__units.j0 (takeC s a 64).1 0 (s, (takeC s a 64).2.1, 0) [] = _
  have := (units_j hs _ h5 _ 0 (takeC s a 64).2.1 [] (by omega) rfl).2 h2
  rw [← h4] at this
  exact this
omit hs in
theorem units_bad (h : e ≠ 0) : command_reader__units.f (s, a, e) = some ([], (s, a, e)) := by
  rw [command_reader__units.f_eq]
  show (bif e != 0 then _ else _) = _
  rw [bne0, decide_eq_true h, cond_true]
omit hs in
theorem end_bad {α : Type} (x : α) (h : e ≠ 0) (y : CommandT × Int × Int) : (bif ((x, (s, a, e)) : α × ByteArray × VecT).2.2.2 != 0 then some ((zeroC, 0, ((x, (s, a, e)) : α × ByteArray × VecT).2.2.2) : CommandT × Int × Int) else some y) = some (zeroC, 0, e) := by
  show (bif e != 0 then _ else _) = _
  rw [bne0, decide_eq_true h, cond_true]
theorem wDecC (a : Int) : command_Decode.f s a = some (decC s a) := by
  rw [command_Decode.f_eq]
  unfold decC
  by_cases h1 : (takeI s a).2.2 = 0
  rotate_left
  · rw [bindR_bad h1, num_err hs h1]
    simp only [Option.bind_some, num_bad h1, units_bad h1, name_bad h1, queued_bad h1, bne0, decide_eq_true h1, cond_true]
  rw [bindR_ok h1, num_ok hs h1]
  simp only [Option.bind_some]
  generalize (takeI s a).2.1 = a1
  by_cases h2 : (takeI s a1).2.2 = 0
  rotate_left
  · rw [bindR_bad h2, num_err hs h2]
    simp only [Option.bind_some, num_bad h2, units_bad h2, name_bad h2, queued_bad h2, bne0, decide_eq_true h2, cond_true]
  rw [bindR_ok h2, num_ok hs h2]
  simp only [Option.bind_some]
  generalize (takeI s a1).2.1 = a2
  by_cases h3 : (takeC s a2 64).2.2 = 0
  rotate_left
  · obtain ⟨l, hl⟩ := units_err hs h3
    rw [bindR_bad h3, hl]
    simp only [Option.bind_some, num_bad h3, units_bad h3, name_bad h3, queued_bad h3, bne0, decide_eq_true h3, cond_true]
  rw [bindR_ok h3]
  by_cases h6 : (intsS s (takeC s a2 64).1.toNat (takeC s a2 64).2.1).2.2 = 0
  rotate_left
  · obtain ⟨l, b, hl⟩ := units_err2 hs h3 h6
    rw [bindR_bad h6, hl]
    simp only [Option.bind_some, num_bad h6, units_bad h6, name_bad h6, queued_bad h6, bne0, decide_eq_true h6, cond_true]
  rw [bindR_ok h6, units_ok hs h3 h6]
  simp only [Option.bind_some]
  generalize (intsS s (takeC s a2 64).1.toNat (takeC s a2 64).2.1).2.1 = a4
  by_cases h7 : (takeI s a4).2.2 = 0
  rotate_left
  · rw [bindR_bad h7, num_err hs h7]
    simp only [Option.bind_some, num_bad h7, units_bad h7, name_bad h7, queued_bad h7, bne0, decide_eq_true h7, cond_true]
  rw [bindR_ok h7, num_ok hs h7]
  simp only [Option.bind_some]
  generalize (takeI s a4).2.1 = a5
  by_cases h8 : (takeI s a5).2.2 = 0
  rotate_left
  · rw [bindR_bad h8, num_err hs h8]
    simp only [Option.bind_some, num_bad h8, units_bad h8, name_bad h8, queued_bad h8, bne0, decide_eq_true h8, cond_true]
  rw [bindR_ok h8, num_ok hs h8]
  simp only [Option.bind_some]
  generalize (takeI s a5).2.1 = a6
  by_cases h9 : (takeI s a6).2.2 = 0
  rotate_left
  · rw [bindR_bad h9, num_err hs h9]
    simp only [Option.bind_some, num_bad h9, units_bad h9, name_bad h9, queued_bad h9, bne0, decide_eq_true h9, cond_true]
  rw [bindR_ok h9, num_ok hs h9]
  simp only [Option.bind_some]
  generalize (takeI s a6).2.1 = a7
  by_cases h10 : (takeI s a7).2.2 = 0
  rotate_left
  · rw [bindR_bad h10, num_err hs h10]
    simp only [Option.bind_some, num_bad h10, units_bad h10, name_bad h10, queued_bad h10, bne0, decide_eq_true h10, cond_true]
  rw [bindR_ok h10, num_ok hs h10]
  simp only [Option.bind_some]
  generalize (takeI s a7).2.1 = a8
  by_cases h11 : (takeT s a8 12).2.2 = 0
  rotate_left
  · obtain ⟨l, hl⟩ := name_err hs h11
    rw [bindR_bad h11, hl]
    simp only [Option.bind_some, num_bad h11, units_bad h11, name_bad h11, queued_bad h11, bne0, decide_eq_true h11, cond_true]
  rw [bindR_ok h11, name_ok hs h11]
  simp only [Option.bind_some]
  generalize (takeT s a8 12).2.1 = a9
  by_cases h12 : (takeB s a9).2.2 = 0
  rotate_left
  · obtain ⟨l, hl⟩ := queued_err hs h12
    rw [bindR_bad h12, hl]
    simp only [Option.bind_some, bne0, decide_eq_true h12, cond_true]
  rw [bindR_ok h12, queued_ok hs h12]
  rfl
end
end Go.Proofs.Ytpiejdjanhnbeaa

/- Commands and batches, written as bytes. -/
set_option linter.unusedVariables false
set_option linter.unusedSimpArgs false
set_option maxHeartbeats 4000000
namespace Go.Proofs.Ytpiejdjanhnbeaa
open Go Go.Sk

/-! ### the builder -/
def rowOf (X : ByteArray) : List Int := List.map (fun c : UInt8 => ((c.toNat : Nat) : Int)) X.data.toList
theorem rowOf_len (X : ByteArray) : (rowOf X).length = X.size := by
  rw [rowOf, List.length_map, Array.length_toList]; rfl
theorem rowOf_append (X Y : ByteArray) : rowOf X ++ rowOf Y = rowOf (X ++ Y) := by
  unfold rowOf
  rw [ByteArray.data_append, Array.toList_append, List.map_append]
theorem bytes_row (X : ByteArray) : bytesOf (rowOf X) = X := by
  apply ByteArray.ext
  apply Array.ext'
  have e : ((fun n : Int => UInt8.ofNat n.toNat) ∘ fun b : UInt8 => ((b.toNat : Nat) : Int)) = id := by funext x; simp
  simp only [bytesOf, rowOf, List.map_map, e, List.map_id]
theorem check0 : __strings_Builder__copyCheck_1.f = some ((), []) := by
  have e : cfg.prim 53 [(.one (.ptr 1 0))] [(.ghost [(.ptr 1 0)]), (.cells [(.slf 76), (.nils (.int .u8))])] ⟨[.agg (.cat (.keep (.slf 76)) (.own (.int .u8)))], 1⟩ = some ((), []) := rfl
  unfold __strings_Builder__copyCheck_1.f callX orPrim
  rw [e]
  rfl
theorem check1 (o : List Int) : __strings_Builder__copyCheck.f o = some ((), o) := by
  have e : cfg.prim 53 [(.one (.ptr 1 0))] [(.ghost [(.ptr 1 0)]), (.cells [(.slf 76), (.osl 2)]), (.row (.int .u8) o)] ⟨[.agg (.cat (.keep (.slf 76)) (.own (.int .u8)))], 1⟩ = some ((), o) := rfl
  unfold __strings_Builder__copyCheck.f callX orPrim
  rw [e]
  rfl
theorem ws0 (X : ByteArray) (h : X.size ≤ 1000000) : __strings_Builder__WriteString_1.f X = some ((X.size : Int), (), (), rowOf X) := by
  have hl := rowOf_len X
  unfold rowOf at hl
  rw [__strings_Builder__WriteString_1.f_eq, check0, Option.bind_some, hl, List.length_nil, cond_dec, if_pos (by omega)]
  rfl
theorem ws1 (s X : ByteArray) (h : X.size + s.size ≤ 1000000) : __strings_Builder__WriteString.f s (rowOf X) = some ((s.size : Int), (), (), rowOf (X ++ s)) := by
  have hl := rowOf_len s
  unfold rowOf at hl
  rw [__strings_Builder__WriteString.f_eq, check1, Option.bind_some, hl, rowOf_len, cond_dec, if_pos (by omega), ← rowOf_append]
  rfl
theorem str_eq (X : ByteArray) (h0 : 0 < X.size) (h : X.size ≤ 1000000) : __strings_Builder__String.f (rowOf X) = some X := by
  have e : cfg.prim 41 [(.one (.ptr 1 0))] [(.ghost []), (.cells [(.slf 76), (.osl 2)]), (.row (.int .u8) (rowOf X))] ⟨[.one (.ty .str)], 0⟩ = some (bytesOf (rowOf X)) := if_pos ⟨rfl, by rw [rowOf_len]; omega, by rw [rowOf_len]; omega⟩
  unfold __strings_Builder__String.f callX orPrim
  rw [e, bytes_row]
  rfl
/-! ### commands -/
def catI : List Int → ByteArray
  | [] => ⟨#[]⟩
  | x :: r => ivT x ++ catI r
theorem app_nil (x : ByteArray) : x ++ (⟨#[]⟩ : ByteArray) = x := by
  apply ByteArray.ext; rw [ByteArray.data_append]; simp
theorem nil_app (x : ByteArray) : (⟨#[]⟩ : ByteArray) ++ x = x := by
  apply ByteArray.ext; rw [ByteArray.data_append]; simp
theorem size_nil : (⟨#[]⟩ : ByteArray).size = 0 := rfl
def tailC (c : CommandT) : ByteArray := ivT c.2.2.2.1.1 ++ (ivT c.2.2.2.1.2 ++ (ivT c.2.2.2.2.1 ++ (ivT c.2.2.2.2.2.1 ++ (tvT c.2.2.2.2.2.2.1 ++ bvT c.2.2.2.2.2.2.2))))
def encC (c : CommandT) : ByteArray := ivT c.1 ++ (ivT c.2.1 ++ (uvT c.2.2.1.length ++ (catI c.2.2.1 ++ tailC c)))
structure FitC (c : CommandT) : Prop where
  p : I64 c.1
  k : I64 c.2.1
  u : ∀ n ∈ c.2.2.1, I64 n
  ul : c.2.2.1.length ≤ 100
  x : I64 c.2.2.2.1.1
  y : I64 c.2.2.2.1.2
  t : I64 c.2.2.2.2.1
  n : I64 c.2.2.2.2.2.1
  nl : c.2.2.2.2.2.2.1.size ≤ 100
theorem catI_size : ∀ (l : List Int), (∀ n ∈ l, I64 n) → (catI l).size ≤ 10 * l.length
  | [], _ => by rw [catI, size_nil]; simp
  | x :: r, h => by
    have h1 := ivT_size (h x (by simp))
    have h2 := catI_size r (fun n hn => h n (by simp [hn]))
    rw [catI, ByteArray.size_append, List.length_cons]
    omega
theorem catI_ge : ∀ (l : List Int), l.length ≤ (catI l).size
  | [] => by simp
  | x :: r => by
    have h1 := ivT_pos x
    have h2 := catI_ge r
    rw [catI, ByteArray.size_append, List.length_cons]
    omega
theorem tailC_size {c : CommandT} (h : FitC c) : (tailC c).size ≤ 151 := by
  have h1 := ivT_size h.x
  have h2 := ivT_size h.y
  have h3 := ivT_size h.t
  have h4 := ivT_size h.n
  have h5 := tvT_size (t := c.2.2.2.2.2.2.1) (by have := h.nl; omega)
  have h6 := h.nl
  unfold tailC
  simp only [ByteArray.size_append, bvT_size]
  omega
theorem uvT_size {n : Nat} (h : n < 18446744073709551616) : (uvT n).size ≤ 10 := by
  unfold uvT; rw [txt_size]; exact uvL_len10 h
theorem encC_size {c : CommandT} (h : FitC c) : (encC c).size ≤ 1200 := by
  have h1 := ivT_size h.p
  have h2 := ivT_size h.k
  have h3 := uvT_size (n := c.2.2.1.length) (by have := h.ul; omega)
  have h4 := catI_size _ h.u
  have h5 := tailC_size h
  have h6 := h.ul
  unfold encC
  simp only [ByteArray.size_append]
  omega
theorem encC_pos (c : CommandT) : 0 < (encC c).size := by
  have := ivT_pos c.1
  unfold encC
  rw [ByteArray.size_append]
  omega
section
variable {c : CommandT} (h : FitC c)
include h
theorem wEnc_j1 (X : ByteArray) (hX : X.size ≤ 3000) (h0 : 0 < X.size) : command_Encode.j1 (c.2.2.2.1.1, c.2.2.2.1.2, c.2.2.2.2.1, c.2.2.2.2.2.1) 0 c (rowOf X) = some (X ++ tailC c) := by
  have z1 := ivT_size h.x
  have z2 := ivT_size h.y
  have z3 := ivT_size h.t
  have z4 := ivT_size h.n
  have z5 := tvT_size (t := c.2.2.2.2.2.2.1) (by have := h.nl; omega)
  have z6 := h.nl
  have w1 : IntKind.i64.wrap (0 + 1) = 1 := rfl
  have w2 : IntKind.i64.wrap (1 + 1) = 2 := rfl
  have w3 : IntKind.i64.wrap (2 + 1) = 3 := rfl
  have w4 : IntKind.i64.wrap (3 + 1) = 4 := rfl
  have a1 : ∀ (a b c d : Int), idx [a, b, c, d] 0 = some a := fun _ _ _ _ => rfl
  have a2 : ∀ (a b c d : Int), idx [a, b, c, d] 1 = some b := fun _ _ _ _ => rfl
  have a3 : ∀ (a b c d : Int), idx [a, b, c, d] 2 = some c := fun _ _ _ _ => rfl
  have a4 : ∀ (a b c d : Int), idx [a, b, c, d] 3 = some d := fun _ _ _ _ => rfl
  rw [command_Encode.j1_eq, decide_eq_true (show (0 : Int) < 4 by omega), cond_true, a1, Option.bind_some, wInt _ h.x, Option.bind_some, ws1 _ _ (by omega), Option.bind_some, w1]
  simp only
  rw [command_Encode.j1_eq, decide_eq_true (show (1 : Int) < 4 by omega), cond_true, a2, Option.bind_some, wInt _ h.y, Option.bind_some, ws1 _ _ (by rw [ByteArray.size_append]; omega), Option.bind_some, w2]
  simp only
  rw [command_Encode.j1_eq, decide_eq_true (show (2 : Int) < 4 by omega), cond_true, a3, Option.bind_some, wInt _ h.t, Option.bind_some, ws1 _ _ (by simp only [ByteArray.size_append]; omega), Option.bind_some, w3]
  simp only
  rw [command_Encode.j1_eq, decide_eq_true (show (3 : Int) < 4 by omega), cond_true, a4, Option.bind_some, wInt _ h.n, Option.bind_some, ws1 _ _ (by simp only [ByteArray.size_append]; omega), Option.bind_some, w4]
  simp only
  rw [command_Encode.j1_eq, decide_eq_false (show ¬ (4 : Int) < 4 by omega), cond_false, wText _ (by omega), Option.bind_some, wBool, Option.bind_some, cond_dec, if_pos (by rw [bvT_size]; omega),
    ws1 _ _ (by simp only [ByteArray.size_append, bvT_size]; omega), Option.bind_some, str_eq _ (by simp only [ByteArray.size_append]; omega) (by simp only [ByteArray.size_append, bvT_size]; omega), Option.bind_some]
  unfold tailC
  simp only [ByteArray.append_assoc]
theorem wEnc_j0 : ∀ (m k : Nat) (X : ByteArray), k + m = c.2.2.1.length → X.size + 10 * m ≤ 2000 → 0 < X.size → command_Encode.j0 c.2.2.1 c.2.2.1.length k c (rowOf X) = some (X ++ (catI (c.2.2.1.drop k) ++ tailC c)) := by
  intro m
  induction m with
  | zero =>
    intro k X hk hX h0
    rw [command_Encode.j0_eq, lt_false (by omega), cond_false, wEnc_j1 h X (by omega) h0, List.drop_of_length_le (by omega)]
    rw [catI, nil_app]
  | succ m ih =>
    intro k X hk hX h0
    have hlt : k < c.2.2.1.length := by omega
    have hu := h.u _ (List.getElem_mem hlt)
    have hz := ivT_size hu
    have := h.ul
    rw [command_Encode.j0_eq, lt_true hlt, cond_true, idx_nat, List.getElem?_eq_getElem hlt, Option.bind_some, wInt _ hu, Option.bind_some, ws1 _ _ (by omega), Option.bind_some, wr_succ hlt (by omega)]
    simp only
    rw [ih (k + 1) _ (by omega) (by rw [ByteArray.size_append]; omega) (by rw [ByteArray.size_append]; omega), List.drop_eq_getElem_cons hlt, catI]
    simp only [ByteArray.append_assoc]
theorem wEncC : command_Encode.f c = some (encC c) := by
  have h1 := ivT_size h.p
  have h2 := ivT_size h.k
  have h3 := uvT_size (n := c.2.2.1.length) (by have := h.ul; omega)
  have h4 := ivT_pos c.1
  have h5 := h.ul
  rw [command_Encode.f_eq, wInt _ h.p, Option.bind_some, wInt _ h.k, Option.bind_some, cond_dec, if_pos (by omega), u64_nat (by omega), wUint _ (by omega), Option.bind_some, cond_dec, if_pos (by rw [ByteArray.size_append]; omega),
    ws0 _ (by simp only [ByteArray.size_append]; omega), Option.bind_some]
  simp only
  have := wEnc_j0 h c.2.2.1.length 0 (ivT c.1 ++ ivT c.2.1 ++ uvT c.2.2.1.length) (by omega) (by simp only [ByteArray.size_append]; omega) (by simp only [ByteArray.size_append]; omega)
  rw [show ((0 : Nat) : Int) = 0 from rfl] at this
  rw [this, List.drop_zero]
  unfold encC
  simp only [ByteArray.append_assoc]
end
/-! ### batches -/
def catC : List CommandT → ByteArray
  | [] => ⟨#[]⟩
  | x :: r => encC x ++ catC r
def encB (b : BatchT) : ByteArray := ivT b.1 ++ (ivT b.2.1 ++ (ivT b.2.2.1 ++ (uvT (List.length (α := CommandT) b.2.2.2) ++ catC b.2.2.2)))
structure FitB (b : BatchT) : Prop where
  p : I64 b.1
  t : I64 b.2.1
  l : I64 b.2.2.1
  c : ∀ c ∈ (b.2.2.2 : List CommandT), FitC c
  cl : List.length (α := CommandT) b.2.2.2 ≤ 40
theorem catC_size : ∀ (l : List CommandT), (∀ c ∈ l, FitC c) → (catC l).size ≤ 1200 * l.length
  | [], _ => by rw [catC, size_nil]; simp
  | x :: r, h => by
    have h1 := encC_size (h x (by simp))
    have h2 := catC_size r (fun n hn => h n (by simp [hn]))
    rw [catC, ByteArray.size_append, List.length_cons]
    omega
theorem catC_ge : ∀ (l : List CommandT), l.length ≤ (catC l).size
  | [] => by simp
  | x :: r => by
    have h1 := encC_pos x
    have h2 := catC_ge r
    rw [catC, ByteArray.size_append, List.length_cons]
    omega
theorem encB_size {b : BatchT} (h : FitB b) : (encB b).size ≤ 50000 := by
  have h1 := ivT_size h.p
  have h2 := ivT_size h.t
  have h3 := ivT_size h.l
  have h4 := uvT_size (n := List.length (α := CommandT) b.2.2.2) (by have := h.cl; omega)
  have h5 := catC_size _ h.c
  have h6 := h.cl
  unfold encB
  simp only [ByteArray.size_append]
  omega
theorem wEncB_j (cs : List CommandT) (hc : ∀ c ∈ cs, FitC c) (hl : cs.length ≤ 40) : ∀ (m k : Nat) (X : ByteArray), k + m = cs.length → X.size + 1200 * m ≤ 100000 → 0 < X.size → input_Encode.j0 cs cs.length k (rowOf X) = some (X ++ catC (cs.drop k)) := by
  intro m
  induction m with
  | zero =>
    intro k X hk hX h0
    rw [input_Encode.j0_eq, lt_false (by omega), cond_false, str_eq _ h0 (by omega), Option.bind_some, List.drop_of_length_le (by omega), catC, app_nil]
  | succ m ih =>
    intro k X hk hX h0
    have hlt : k < cs.length := by omega
    have hu := hc _ (List.getElem_mem hlt)
    have hz := encC_size hu
    rw [input_Encode.j0_eq, lt_true hlt, cond_true, idx_nat, List.getElem?_eq_getElem hlt, Option.bind_some, wEncC hu, Option.bind_some, ws1 _ _ (by omega), Option.bind_some, wr_succ hlt (by omega)]
    simp only
    rw [ih (k + 1) _ (by omega) (by rw [ByteArray.size_append]; omega) (by rw [ByteArray.size_append]; omega), List.drop_eq_getElem_cons hlt, catC, ByteArray.append_assoc]
theorem wEncB {b : BatchT} (h : FitB b) : input_Encode.f b = some (encB b) := by
  have h1 := ivT_size h.p
  have h2 := ivT_size h.t
  have h3 := ivT_size h.l
  have h4 := uvT_size (n := List.length (α := CommandT) b.2.2.2) (by have := h.cl; omega)
  have h5 := ivT_pos b.1
  have h6 := h.cl
  rw [input_Encode.f_eq, wInt _ h.p, Option.bind_some, wInt _ h.t, Option.bind_some, cond_dec, if_pos (by omega), wInt _ h.l, Option.bind_some, cond_dec, if_pos (by rw [ByteArray.size_append]; omega), u64_nat (by omega), wUint _ (by omega), Option.bind_some, cond_dec, if_pos (by simp only [ByteArray.size_append]; omega),
    ws0 _ (by simp only [ByteArray.size_append]; omega), Option.bind_some]
  simp only
  have := wEncB_j b.2.2.2 h.c h6 (List.length (α := CommandT) b.2.2.2) 0 (ivT b.1 ++ ivT b.2.1 ++ ivT b.2.2.1 ++ uvT (List.length (α := CommandT) b.2.2.2)) (by omega) (by simp only [ByteArray.size_append]; omega) (by simp only [ByteArray.size_append]; omega)
  rw [show ((0 : Nat) : Int) = 0 from rfl] at this
  rw [this, List.drop_zero]
  unfold encB
  simp only [ByteArray.append_assoc]
end Go.Proofs.Ytpiejdjanhnbeaa

/- Valid commands and batches; equality. -/
set_option linter.unusedVariables false
set_option linter.unusedSimpArgs false
set_option maxHeartbeats 4000000
namespace Go.Proofs.Ytpiejdjanhnbeaa
open Go Go.Sk

/-! ### kinds -/
def kO (k : Int) : Bool := decide (k ≥ 1) && decide (k ≤ 6)
def kS (k : Int) : Bool := decide (k ≥ 7) && decide (k ≤ 9)
def kA (k : Int) : Bool := k == 1 || (k == 3 || (k == 4 || k == 6))
def kN (k : Int) : Bool := k == 1 || k == 9
def kM (k : Int) : Bool := k == 4 || (k == 7 || k == 8)
theorem cc {α : Type} (a t : Bool) (x y : α) : (bif a then x else bif t then x else y) = bif (a || t) then x else y := by cases a <;> cases t <;> rfl
theorem ord_eq (k : Int) : ref34_Ordering.f k = some (kO k) := by rw [ref34_Ordering.f_eq, c1]; rfl
theorem single_eq (k : Int) : ref34_single.f k = some (kS k) := by rw [ref34_single.f_eq, c1]; rfl
theorem hasAt_eq (k : Int) : ref34_hasAt.f k = some (kA k) := by rw [ref34_hasAt.f_eq, c2, c2, c2]; rfl
theorem hasN_eq (k : Int) : ref34_hasN.f k = some (kN k) := by rw [ref34_hasN.f_eq, c2]; rfl
theorem hasName_eq (k : Int) : ref34_hasName.f k = some (kM k) := by rw [ref34_hasName.f_eq, c2, c2]; rfl
def bit (f m : Int) : Bool := IntKind.i64.wrap (((BitVec.ofInt 64 f &&& BitVec.ofInt 64 m).toNat : Nat) : Int) != 0
structure Fd (k f : Int) : Prop where
  eq : command_fields.f k = some f
  b1 : bit f 1 = (kO k || kS k)
  b2 : bit f 2 = kA k
  b4 : bit f 4 = (k == 2)
  b8 : bit f 8 = kN k
  b16 : bit f 16 = kM k
  b32 : bit f 32 = kO k
theorem fields_eq (k : Int) (h1 : 1 ≤ k) (h2 : k ≤ 12) : ∃ f, Fd k f := by
  have hk : k = 1 ∨ k = 2 ∨ k = 3 ∨ k = 4 ∨ k = 5 ∨ k = 6 ∨ k = 7 ∨ k = 8 ∨ k = 9 ∨ k = 10 ∨ k = 11 ∨ k = 12 := by omega
  rcases hk with rfl | rfl | rfl | rfl | rfl | rfl | rfl | rfl | rfl | rfl | rfl | rfl
  · exact ⟨43, command_fields.f_eq _, rfl, rfl, rfl, rfl, rfl, rfl⟩
  · exact ⟨37, command_fields.f_eq _, rfl, rfl, rfl, rfl, rfl, rfl⟩
  · exact ⟨35, command_fields.f_eq _, rfl, rfl, rfl, rfl, rfl, rfl⟩
  · exact ⟨51, command_fields.f_eq _, rfl, rfl, rfl, rfl, rfl, rfl⟩
  · exact ⟨33, command_fields.f_eq _, rfl, rfl, rfl, rfl, rfl, rfl⟩
  · exact ⟨35, command_fields.f_eq _, rfl, rfl, rfl, rfl, rfl, rfl⟩
  · exact ⟨17, command_fields.f_eq _, rfl, rfl, rfl, rfl, rfl, rfl⟩
  · exact ⟨17, command_fields.f_eq _, rfl, rfl, rfl, rfl, rfl, rfl⟩
  · exact ⟨9, command_fields.f_eq _, rfl, rfl, rfl, rfl, rfl, rfl⟩
  · exact ⟨0, command_fields.f_eq _, rfl, rfl, rfl, rfl, rfl, rfl⟩
  · exact ⟨0, command_fields.f_eq _, rfl, rfl, rfl, rfl, rfl, rfl⟩
  · exact ⟨0, command_fields.f_eq _, rfl, rfl, rfl, rfl, rfl, rfl⟩
/-! ### fields that a kind does not have -/
def bareS (c : CommandT) : Bool :=
  ((kO c.2.1 || kS c.2.1) || ((c.2.2.1.length : Int) == 0)) && ((kA c.2.1 || (c.2.2.2.1.1 == 0 && c.2.2.2.1.2 == 0)) && (((c.2.1 == 2) || (c.2.2.2.2.1 == 0)) && ((kN c.2.1 || (c.2.2.2.2.2.1 == 0)) && ((kM c.2.1 || (ByteArray.toList c.2.2.2.2.2.2.1 == ByteArray.toList { data := #[] })) && (kO c.2.1 || !c.2.2.2.2.2.2.2)))))
theorem rBare (c : CommandT) : ref34_bare.f c = some (bareS c) := by
  rw [ref34_bare.f_eq]
  simp only [ord_eq, single_eq, Option.bind_some]
  rw [show (bif kO c.2.1 then ref34_bare.j0 true c else ref34_bare.j0 (kS c.2.1) c) = ref34_bare.j0 (kO c.2.1 || kS c.2.1) c by cases kO c.2.1 <;> rfl]
  rw [ref34_bare.j0_eq]
  simp only [ord_eq, single_eq, hasAt_eq, hasN_eq, hasName_eq, Option.bind_some, ref34_bare.j1_eq, cc, c2]
  simp only [c1]
  rfl
theorem wUnused (c : CommandT) (f : Int) (h : Fd c.2.1 f) : command_unused.f c = some (bareS c) := by
  have h1 := h.b1
  have h2 := h.b2
  have h3 := h.b4
  have h4 := h.b8
  have h5 := h.b16
  have h6 := h.b32
  unfold bit at h1 h2 h3 h4 h5 h6
  rw [command_unused.f_eq, h.eq, Option.bind_some, h1, h2, h3, h4, h5, h6]
  simp only [command_unused.j0_eq, cc, c2]
  simp only [c1]
  rfl
/-! ### units, places, names -/
noncomputable def idsS (c : CommandT) : Bool := (ref34_listed.f c).getD false
theorem ids_j (c : CommandT) (hl : c.2.2.1.length ≤ 1000000) (hk1 : 1 ≤ c.2.1) (hk2 : c.2.1 ≤ 12) : ∀ (m k : Nat), k + m = c.2.2.1.length → ∃ b, command_ids.j0 c.2.2.1 c.2.2.1.length k c = some b ∧ ref34_listed.j0 k c = some b := by
  intro m
  induction m with
  | zero =>
    intro k hk
    rw [command_ids.j0_eq, ref34_listed.j0_eq, lt_false (by omega), cond_false, cond_false, single_eq]
    refine ⟨decide ((c.2.2.1.length : Int) > 0) && (!kS c.2.1 || (c.2.2.1.length : Int) == 1), ?_, ?_⟩
    · have e : kS c.2.1 = (c.2.1 == 7 || (c.2.1 == 8 || c.2.1 == 9)) := by
        unfold kS
        simp only [beq_dec, ← Bool.decide_and, ← Bool.decide_or]
        exact decide_eq_decide.2 (by omega)
      rw [e]
      cases c.2.1 == 7 <;> cases c.2.1 == 8 <;> cases c.2.1 == 9 <;> cases decide ((c.2.2.1.length : Int) > 0) <;> cases (c.2.2.1.length : Int) == 1 <;> rfl
    · cases kS c.2.1 <;> cases decide ((c.2.2.1.length : Int) > 0) <;> cases (c.2.2.1.length : Int) == 1 <;> rfl
  | succ m ih =>
    intro k hk
    have hlt : k < c.2.2.1.length := by omega
    obtain ⟨b, h1, h2⟩ := ih (k + 1) (by omega)
    rw [command_ids.j0_eq, ref34_listed.j0_eq, lt_true hlt, cond_true, cond_true, idx_nat, List.getElem?_eq_getElem hlt]
    simp only [Option.bind_some, wr_succ hlt (show c.2.2.1.length ≤ 9223372036854775807 by omega), h1, h2]
    by_cases h0 : 0 < k
    · rw [prev_idx _ k hlt (by omega) h0]
      simp only [Option.bind_some]
      generalize decide (c.2.2.1[k] < 1) = b1
      generalize decide (c.2.2.1[k] > 1099511627776) = b2
      generalize decide (c.2.2.1[k] ≤ c.2.2.1[k - 1]) = b3
      generalize decide ((k : Int) > 0) = b4
      refine ⟨bif b1 then false else bif b2 then false else bif b4 then (bif b3 then false else b) else b, ?_, ?_⟩ <;> (cases b1 <;> cases b2 <;> cases b3 <;> cases b4 <;> rfl)
    · rw [decide_eq_false (show ¬ (k : Int) > 0 by omega)]
      simp only [cond_false]
      generalize decide (c.2.2.1[k] < 1) = b1
      generalize decide (c.2.2.1[k] > 1099511627776) = b2
      refine ⟨bif b1 then false else bif b2 then false else b, ?_, ?_⟩ <;> (cases b1 <;> cases b2 <;> rfl)
theorem ids_eq (c : CommandT) (hl : c.2.2.1.length ≤ 1000000) (hk1 : 1 ≤ c.2.1) (hk2 : c.2.1 ≤ 12) : command_ids.f c = some (idsS c) ∧ ref34_listed.f c = some (idsS c) := by
  obtain ⟨b, h1, h2⟩ := ids_j c hl hk1 hk2 _ 0 (Nat.zero_add _)
  unfold idsS
  rw [command_ids.f_eq, ref34_listed.f_eq]
  rw [show ((0 : Nat) : Int) = 0 from rfl] at h1 h2
  rw [h1, h2]
  exact ⟨rfl, rfl⟩
def vecS (a : VecT) : Bool := decide (-1048576 ≤ a.1 ∧ a.1 ≤ 1048576) && decide (-1048576 ≤ a.2 ∧ a.2 ≤ 1048576)
theorem wVec (a : VecT) : vec_Valid.f a = some (vecS a) := by
  rw [vec_Valid.f_eq, vec_nearest.f_eq, vec_near.f_eq, vec_near.f_eq, num_Clamp.f_eq, num_Clamp.f_eq]
  simp only [Option.bind_some, vecS]
  congr 2
  · rw [beq_dec]
    apply decide_eq_decide.2
    split <;> split at * <;> omega
  · rw [beq_dec]
    apply decide_eq_decide.2
    split <;> split at * <;> omega
theorem rVec (a : VecT) : ref02_Valid.f a = some (vecS a) := by
  rw [ref02_Valid.f_eq, ref02_NearVec.f_eq, ref02_Near.f_eq, ref02_Near.f_eq]
  simp only [Option.bind_some, vecS]
  congr 2
  · rw [beq_dec]
    apply decide_eq_decide.2
    split <;> split at * <;> omega
  · rw [beq_dec]
    apply decide_eq_decide.2
    split <;> split at * <;> omega
noncomputable def nameS (s : ByteArray) : Bool := (ref09_Name.f s).getD false
theorem name_j (s : ByteArray) (hs : s.size ≤ 1000000) : ∀ (m k : Nat), k + m = s.size → ∃ b, rules_Name.j0 s s.size k = some b ∧ ref09_Name.j0 s k = some b := by
  intro m
  induction m with
  | zero =>
    intro k hk
    rw [rules_Name.j0_eq, ref09_Name.j0_eq, lt_false (by omega), cond_false, cond_false]
    exact ⟨true, rfl, rfl⟩
  | succ m ih =>
    intro k hk
    have hlt : k < s.size := by omega
    obtain ⟨b, h1, h2⟩ := ih (k + 1) (by omega)
    rw [rules_Name.j0_eq, ref09_Name.j0_eq, lt_true hlt, cond_true, cond_true, byteAt_nat s k hlt]
    simp only [Option.bind_some, wr_succ hlt (show s.size ≤ 9223372036854775807 by omega), h1, h2]
    generalize ((s[k].toNat : Nat) : Int) = c
    have a1 : decide (c ≥ 97) = !decide (c < 97) := by rw [← decide_not]; exact decide_eq_decide.2 (by omega)
    have a2 : (!decide (c ≤ 122)) = decide (c > 122) := by rw [← decide_not]; exact decide_eq_decide.2 (by omega)
    have a3 : decide (c ≥ 48) = !decide (c < 48) := by rw [← decide_not]; exact decide_eq_decide.2 (by omega)
    have a4 : (!decide (c ≤ 57)) = decide (c > 57) := by rw [← decide_not]; exact decide_eq_decide.2 (by omega)
    rw [a1, a2, a3, a4]
    generalize decide (c < 97) = b1
    generalize decide (c > 122) = b2
    generalize decide (c < 48) = b3
    generalize decide (c > 57) = b4
    generalize (c != 95) = b5
    refine ⟨bif (b1 || b2) && (b3 || b4) && b5 then false else b, ?_, ?_⟩ <;> (cases b1 <;> cases b2 <;> cases b3 <;> cases b4 <;> cases b5 <;> rfl)
theorem name_eq (s : ByteArray) (hs : s.size ≤ 1000000) : rules_Name.f s = some (nameS s) ∧ ref09_Name.f s = some (nameS s) := by
  have key : ∃ b, rules_Name.f s = some b ∧ ref09_Name.f s = some b := by
    rw [rules_Name.f_eq, ref09_Name.f_eq, empty_iff]
    by_cases h0 : s.size = 0
    · rw [decide_eq_true h0, decide_eq_true (show (s.size : Int) < 1 by omega)]
      exact ⟨false, rfl, rfl⟩
    rw [decide_eq_false h0, decide_eq_false (show ¬ (s.size : Int) < 1 by omega), cond_false, cond_false]
    obtain ⟨b, h1, h2⟩ := name_j s hs s.size 0 (by omega)
    rw [show ((0 : Nat) : Int) = 0 from rfl] at h1 h2
    rw [h1, h2]
    have h3 := byteAt_nat s 0 (by omega)
    rw [show ((0 : Nat) : Int) = 0 from rfl] at h3
    rw [h3]
    simp only [Option.bind_some]
    generalize decide ((s.size : Int) > 12) = b1
    generalize decide (((s[0].toNat : Nat) : Int) < 97) = b2
    generalize decide (((s[0].toNat : Nat) : Int) > 122) = b3
    refine ⟨bif b1 then false else bif b2 then false else bif b3 then false else b, ?_, ?_⟩ <;> (cases b1 <;> cases b2 <;> cases b3 <;> rfl)
  obtain ⟨b, h1, h2⟩ := key
  unfold nameS
  rw [h2, h1]
  exact ⟨rfl, rfl⟩
theorem name_len (s : ByteArray) (h : nameS s = true) : s.size ≤ 12 := by
  unfold nameS at h
  rw [ref09_Name.f_eq] at h
  rcases Nat.lt_or_ge 12 s.size with h1 | h1
  · rw [decide_eq_false (show ¬ (s.size : Int) < 1 by omega), decide_eq_true (show (s.size : Int) > 12 by omega)] at h
    exact absurd h (by simp)
  · exact h1
/-! ### valid commands -/
noncomputable def valC (c : CommandT) : Int :=
  bif decide (c.2.1 < 1) || (decide (c.2.1 > 12) || (decide (c.1 < 1) || (decide (c.1 > 6) || !bareS c))) then 1
  else bif decide ((c.2.2.1.length : Int) > 64) then 2
  else bif (kO c.2.1 || kS c.2.1) && !idsS c then 1
  else bif kA c.2.1 && !vecS c.2.2.2.1 then 1
  else bif (c.2.1 == 2) && (decide (c.2.2.2.2.1 < 1) || decide (c.2.2.2.2.1 > 1099511627776)) then 1
  else bif kN c.2.1 && (decide (c.2.2.2.2.2.1 < 0) || decide (c.2.2.2.2.2.1 > 4)) then 1
  else bif kM c.2.1 && !nameS c.2.2.2.2.2.2.1 then 6 else 0
structure LenC (c : CommandT) : Prop where
  ul : c.2.2.1.length ≤ 100
  nl : c.2.2.2.2.2.2.1.size ≤ 100
theorem cf {α : Type} (g : Bool → α) (a x : Bool) : (bif a then g x else g false) = g (a && x) := by cases a <;> rfl
theorem ct {α : Type} (g : Bool → α) (a x : Bool) : (bif a then g true else g x) = g (a || x) := by cases a <;> rfl
theorem some_cond {α : Type} (a : Bool) (x y : α) : (bif a then some x else some y) = some (bif a then x else y) := by cases a <;> rfl
theorem wValC (c : CommandT) (h : LenC c) : command_Valid.f c = some (valC c) := by
  have hl1 := h.ul
  have hl2 := h.nl
  rw [command_Valid.f_eq]
  by_cases h1 : c.2.1 < 1
  · unfold valC
    rw [decide_eq_true h1, cond_true, command_Valid.j0_eq]
    rfl
  by_cases h2 : c.2.1 > 12
  · unfold valC
    rw [decide_eq_false h1, cond_false, decide_eq_true h2, cond_true, command_Valid.j0_eq]
    rfl
  obtain ⟨f, hf⟩ := fields_eq c.2.1 (by omega) (by omega)
  have e1 := hf.b1
  have e2 := hf.b2
  have e4 := hf.b4
  have e8 := hf.b8
  have e16 := hf.b16
  unfold bit at e1 e2 e4 e8 e16
  have hids := (ids_eq c (by omega) (by omega) (by omega)).1
  have hname := (name_eq c.2.2.2.2.2.2.1 (by omega)).1
  have j3 : ∀ b, command_Valid.j3 f b c = some (bif b then 1 else bif kM c.2.1 && !nameS c.2.2.2.2.2.2.1 then 6 else 0) := fun b => by
    rw [command_Valid.j3_eq, e16, hname]
    simp only [Option.bind_some, command_Valid.j5_eq, some_cond]
    congr 1
    cases b <;> cases kM c.2.1 <;> rfl
  have j9 : ∀ b, command_Valid.j9 f b c = command_Valid.j3 f b c := fun b => by rw [command_Valid.j9_eq, command_Valid.j8_eq, command_Valid.j6_eq]
  have j7 : ∀ b, command_Valid.j7 f 4 b c = some (bif b then 1 else bif kN c.2.1 && (decide (c.2.2.2.2.2.1 < 0) || decide (c.2.2.2.2.2.1 > 4)) then 1 else bif kM c.2.1 && !nameS c.2.2.2.2.2.2.1 then 6 else 0) := fun b => by
    rw [command_Valid.j7_eq, e8, command_Valid.j8_eq, command_Valid.j6_eq, j9, j9, j9, ct (fun b => command_Valid.j3 f b c), cf (fun b => command_Valid.j3 f b c), j3, j3, some_cond]
    congr 1
    cases b <;> rfl
  have j4 : ∀ b, command_Valid.j4 f 4 b c = some (bif b then 1 else bif (c.2.1 == 2) && (decide (c.2.2.2.2.1 < 1) || decide (c.2.2.2.2.1 > 1099511627776)) then 1 else bif kN c.2.1 && (decide (c.2.2.2.2.2.1 < 0) || decide (c.2.2.2.2.2.1 > 4)) then 1 else bif kM c.2.1 && !nameS c.2.2.2.2.2.2.1 then 6 else 0) := fun b => by
    rw [command_Valid.j4_eq, e4, command_Valid.j6_eq, ct (fun b => command_Valid.j7 f 4 b c), cf (fun b => command_Valid.j7 f 4 b c), j7, j3, some_cond]
    congr 1
    cases b <;> rfl
  have j2 : ∀ b, command_Valid.j2 f 4 b c = some (bif b then 1 else bif kA c.2.1 && !vecS c.2.2.2.1 then 1 else bif (c.2.1 == 2) && (decide (c.2.2.2.2.1 < 1) || decide (c.2.2.2.2.1 > 1099511627776)) then 1 else bif kN c.2.1 && (decide (c.2.2.2.2.2.1 < 0) || decide (c.2.2.2.2.2.1 > 4)) then 1 else bif kM c.2.1 && !nameS c.2.2.2.2.2.2.1 then 6 else 0) := fun b => by
    rw [command_Valid.j2_eq, e2, wVec, Option.bind_some, cf (fun b => command_Valid.j4 f 4 b c), j4, j3, some_cond]
    congr 1
    cases b <;> rfl
  rw [decide_eq_false h1, cond_false, decide_eq_false h2, cond_false, wUnused c f hf, Option.bind_some, ct (fun b => command_Valid.j0 b c), ct (fun b => command_Valid.j0 b c), command_Valid.j0_eq, hf.eq, Option.bind_some, command_Valid.j1_eq, e1, hids, Option.bind_some,
    cf (fun b => command_Valid.j2 f 4 b c), j2]
  unfold valC
  rw [decide_eq_false h1, decide_eq_false h2, Bool.false_or, Bool.false_or]
  rw [show ∀ (a : Bool) (x : Option Int), (bif a then x else x) = x from fun a x => by cases a <;> rfl, some_cond, some_cond]
theorem rValC (c : CommandT) (h : LenC c) : ref34_Valid.f c = some (valC c) := by
  have hl1 := h.ul
  have hl2 := h.nl
  rw [ref34_Valid.f_eq]
  by_cases h1 : c.2.1 < 1
  · unfold valC
    rw [decide_eq_true h1, cond_true, ref34_Valid.j0_eq]
    rfl
  by_cases h2 : c.2.1 > 12
  · unfold valC
    rw [decide_eq_false h1, cond_false, decide_eq_true h2, cond_true, ref34_Valid.j0_eq]
    rfl
  have hids := (ids_eq c (by omega) (by omega) (by omega)).2
  have hname := (name_eq c.2.2.2.2.2.2.1 (by omega)).2
  have j5 : ∀ b, ref34_Valid.j5 b c = some (bif b then 1 else bif kM c.2.1 && !nameS c.2.2.2.2.2.2.1 then 6 else 0) := fun b => by
    rw [ref34_Valid.j5_eq, hasName_eq, Option.bind_some, hname]
    simp only [Option.bind_some, ref34_Valid.j6_eq, some_cond]
    congr 1
    cases b <;> cases kM c.2.1 <;> rfl
  have j4 : ∀ b, ref34_Valid.j4 4 b c = some (bif b then 1 else bif kN c.2.1 && (decide (c.2.2.2.2.2.1 < 0) || decide (c.2.2.2.2.2.1 > 4)) then 1 else bif kM c.2.1 && !nameS c.2.2.2.2.2.2.1 then 6 else 0) := fun b => by
    rw [ref34_Valid.j4_eq, hasN_eq, Option.bind_some, ct (fun b => ref34_Valid.j5 b c), cf (fun b => ref34_Valid.j5 b c), j5, some_cond]
  have j3 : ∀ b, ref34_Valid.j3 4 b c = some (bif b then 1 else bif (c.2.1 == 2) && (decide (c.2.2.2.2.1 < 1) || decide (c.2.2.2.2.1 > 1099511627776)) then 1 else bif kN c.2.1 && (decide (c.2.2.2.2.2.1 < 0) || decide (c.2.2.2.2.2.1 > 4)) then 1 else bif kM c.2.1 && !nameS c.2.2.2.2.2.2.1 then 6 else 0) := fun b => by
    rw [ref34_Valid.j3_eq, ct (fun b => ref34_Valid.j4 4 b c), cf (fun b => ref34_Valid.j4 4 b c), j4, some_cond]
  have j2 : ∀ b, ref34_Valid.j2 4 b c = some (bif b then 1 else bif kA c.2.1 && !vecS c.2.2.2.1 then 1 else bif (c.2.1 == 2) && (decide (c.2.2.2.2.1 < 1) || decide (c.2.2.2.2.1 > 1099511627776)) then 1 else bif kN c.2.1 && (decide (c.2.2.2.2.2.1 < 0) || decide (c.2.2.2.2.2.1 > 4)) then 1 else bif kM c.2.1 && !nameS c.2.2.2.2.2.2.1 then 6 else 0) := fun b => by
    rw [ref34_Valid.j2_eq, hasAt_eq, Option.bind_some, rVec, Option.bind_some, cf (fun b => ref34_Valid.j3 4 b c), j3, some_cond]
  have j1 : ref34_Valid.j1 4 c = ref34_Valid.j2 4 ((kO c.2.1 || kS c.2.1) && !idsS c) c := by
    rw [ref34_Valid.j1_eq, ord_eq, Option.bind_some, single_eq, Option.bind_some, hids, Option.bind_some]
    cases kO c.2.1 <;> cases kS c.2.1 <;> rfl
  rw [decide_eq_false h1, cond_false, decide_eq_false h2, cond_false, rBare c, Option.bind_some, ct (fun b => ref34_Valid.j0 b c), ct (fun b => ref34_Valid.j0 b c), ref34_Valid.j0_eq, j1, j2]
  unfold valC
  rw [decide_eq_false h1, decide_eq_false h2, Bool.false_or, Bool.false_or]
  rw [show ∀ (a : Bool) (x : Option Int), (bif a then x else x) = x from fun a x => by cases a <;> rfl, some_cond, some_cond]
end Go.Proofs.Ytpiejdjanhnbeaa

/- When commands and batches are the same (exactly if they are equal), and when a batch is valid. -/
set_option linter.unusedVariables false
set_option linter.unusedSimpArgs false
set_option maxHeartbeats 4000000
namespace Go.Proofs.Ytpiejdjanhnbeaa
open Go Go.Sk
abbrev lim48 : Nat := 2000000
instance dec1 : DecidableEq (Int × Int × ByteArray × Bool) := inferInstance
instance dec2 : DecidableEq ((Int × Int) × Int × Int × ByteArray × Bool) := inferInstance
instance dec3 : DecidableEq (Int × List Int × (Int × Int) × Int × Int × ByteArray × Bool) := inferInstance
instance dec4 : DecidableEq CommandT := inferInstance
instance dec5 : DecidableEq (Int × List CommandT) := inferInstance
instance dec6 : DecidableEq BatchT := inferInstance
def BatL (b : BatchT) : Prop := b.2.2.2.length ≤ lim48 ∧ ∀ c ∈ b.2.2.2, LenC c

theorem rcmdSame_eq (a b : CommandT) (ha : LenC a) : ref34_Same.f a b = some (decide (a = b)) := by
  have hu : a.2.2.1.length ≤ 2000000 := by have := ha.ul; omega
  rw [ref34_Same.f_eq]
  have hloop : a.2.2.1.length = b.2.2.1.length → ref34_Same.j0 0 a b = some (decide (a.2.2.1 = b.2.2.1)) := fun hl => by
    refine equal_fun (eqf := fun x y => some (decide (x = y))) a.2.2.1 b.2.2.1 (fun _ _ _ => rfl) (fun i => ref34_Same.j0 i a b) hl (fun k h1 h2 => ?_) ?_
    · rw [ref34_Same.j0_eq, lt_true h1, cond_true, idx_nat, idx_nat, List.getElem?_eq_getElem h1, List.getElem?_eq_getElem h2, Option.bind_some, Option.bind_some, wr_succ h1 (by omega), bne_dec]
      rfl
    · rw [ref34_Same.j0_eq, lt_false (Nat.le_refl _), cond_false]
  have hlen : (bif ((a.2.2.1.length : Int) != (b.2.2.1.length : Int)) then some false else ref34_Same.j0 0 a b) = some (decide (a.2.2.1 = b.2.2.1)) := by
    cases hl : ((a.2.2.1.length : Int) != (b.2.2.1.length : Int)) with
    | true => rw [cond_true, decide_eq_false fun h => (len_ne _ _).1 hl (by rw [h])]
    | false => exact hloop (len_eq hl)
  rw [hlen]
  clear hlen hloop hu ha
  obtain ⟨p, k, u, ⟨x, y⟩, t, n, nm, q⟩ := a
  obtain ⟨p', k', u', ⟨x', y'⟩, t', n', nm', q'⟩ := b
  simp only [c4, toList_beq, beq_dec, bne_dec, Bool.not_not, ← Bool.decide_and]
  congr 1
  apply decide_eq_decide.2
  simp only [Prod.mk.injEq]
  constructor
  · rintro ⟨h1, h2, ⟨h4, h5⟩, h6, h7, h8, h9, h3⟩
    exact ⟨h1, h2, h3, ⟨h4, h5⟩, h6, h7, h8, h9⟩
  · rintro ⟨h1, h2, h3, ⟨h4, h5⟩, h6, h7, h8, h9⟩
    exact ⟨h1, h2, ⟨h4, h5⟩, h6, h7, h8, h9, h3⟩

theorem sameCmds_eq (a b : List CommandT) (ha : a.length ≤ lim48) (hc : ∀ c ∈ a, LenC c) : ref46_SameCommands.f a b = some (decide (a = b)) := by
  have ha' : a.length ≤ 2000000 := ha
  rw [ref46_SameCommands.f_eq]
  cases hl : ((a.length : Int) != (b.length : Int)) with
  | true => rw [cond_true, decide_eq_false fun h => (len_ne a b).1 hl (by rw [h])]
  | false =>
    refine equal_fun (eqf := ref34_Same.f) a b (fun x hx y => rcmdSame_eq x y (hc x hx)) (fun i => ref46_SameCommands.j0 a b i) (len_eq hl) (fun k h1 h2 => ?_) ?_
    · rw [ref46_SameCommands.j0_eq, lt_true h1, cond_true, idx_nat, idx_nat, List.getElem?_eq_getElem h1, List.getElem?_eq_getElem h2, Option.bind_some, Option.bind_some, wr_succ h1 (by omega)]
    · rw [ref46_SameCommands.j0_eq, lt_false (Nat.le_refl _), cond_false]
theorem rbatSame_eq (a b : BatchT) (ha : BatL a) : ref46_Same.f a b = some (decide (a = b)) := by
  rw [ref46_Same.f_eq, sameCmds_eq _ _ ha.1 ha.2]
  obtain ⟨p, t, l, c⟩ := a
  obtain ⟨p', t', l', c'⟩ := b
  simp only [Option.bind_some, c1, beq_dec, ← Bool.decide_and]
  congr 1
  apply decide_eq_decide.2
  simp only [Prod.mk.injEq]

/-- a command that does not belong to a batch of a player -/
noncomputable def badCmd (p : Int) (c : CommandT) : Bool := valC c != 0 || c.1 != p
noncomputable def batOK (b : BatchT) : Bool := (!decide (b.1 < 1) && (!decide (b.1 > 6) && (!decide (b.2.1 < 0) && (!decide (b.2.1 > 1048584) && (!decide (b.2.2.1 < 0) && (!decide (b.2.2.1 > 1048576) && (!decide ((b.2.2.2.length : Int) > 16) && !(b.2.2.2.any (badCmd b.1)))))))))
theorem inputValid_eq (b : BatchT) (hb : BatL b) : input_Valid.f b = some (batOK b) := by
  have hl : b.2.2.2.length ≤ 2000000 := hb.1
  have hidx : slices_IndexFunc_1.f b.2.2.2 b = some (pos1 (b.2.2.2.findIdx? (badCmd b.1))) := by
    rw [slices_IndexFunc_1.f_eq, find_loop b.2.2.2 (fun i => slices_IndexFunc_1.j0 b.2.2.2 b b.2.2.2.length i) (badCmd b.1) (fun k => (k : Int)) (some (-1)) (fun k hk => ?hF) ?hE]
    · exact found_pos _
    case hF =>
      rw [slices_IndexFunc_1.j0_eq, lt_true hk, cond_true, idx_nat, List.getElem?_eq_getElem hk, Option.bind_some, input_Valid_1.f_eq, wValC _ (hb.2 _ (List.getElem_mem hk)), Option.bind_some, wr_succ hk (by omega)]
      unfold badCmd
      cases valC b.2.2.2[k] != 0 <;> rfl
    case hE =>
      rw [slices_IndexFunc_1.j0_eq, lt_false (Nat.le_refl _), cond_false]
  rw [input_Valid.f_eq, slices_ContainsFunc.f_eq, hidx, Option.bind_some, findIdx_ge, Option.bind_some]
  simp only [c4]
  rfl
theorem refValid_eq (b : BatchT) (hb : BatL b) : ref46_Valid.f b = some (batOK b) := by
  have hl : b.2.2.2.length ≤ 2000000 := hb.1
  have hloop : ref46_Valid.j0 0 b = some (!(b.2.2.2.any (badCmd b.1))) := by
    rw [any_loop b.2.2.2 (fun i => ref46_Valid.j0 i b) (badCmd b.1) false (some true) (fun k hk => ?hF) ?hE]
    · cases b.2.2.2.any (badCmd b.1) <;> rfl
    case hF =>
      rw [ref46_Valid.j0_eq, lt_true hk, cond_true, idx_nat, List.getElem?_eq_getElem hk, Option.bind_some, Option.bind_some, rValC _ (hb.2 _ (List.getElem_mem hk)), Option.bind_some, wr_succ hk (by omega)]
      unfold badCmd
      cases valC b.2.2.2[k] != 0 <;> cases b.2.2.2[k].1 != b.1 <;> rfl
    case hE =>
      rw [ref46_Valid.j0_eq, lt_false (Nat.le_refl _), cond_false]
  rw [ref46_Valid.f_eq, hloop]
  simp only [c4]
  rfl


end Go.Proofs.Ytpiejdjanhnbeaa

/- Batches, read; what was written is read. -/
set_option linter.unusedVariables false
set_option linter.unusedSimpArgs false
set_option maxHeartbeats 4000000
namespace Go.Proofs.Ytpiejdjanhnbeaa
open Go Go.Sk

theorem bindR_ind {α β : Type} {r : α × Int × Int} {d : β} {k : α → Int → β × Int × Int} {Q : β → Prop} (hd : Q d) (hk : r.2.2 = 0 → Q (k r.1 r.2.1).1) : Q (bindR r d k).1 := by
  by_cases h : r.2.2 = 0
  · rw [bindR_ok h]; exact hk h
  · rw [bindR_bad h]; exact hd
theorem intsS_len (s : ByteArray) : ∀ (n : Nat) (a : Int), (intsS s n a).1.length ≤ n
  | 0, a => by simp [intsS]
  | n + 1, a => by
    unfold intsS
    refine bindR_ind (Q := fun l : List Int => l.length ≤ n + 1) (by simp) fun _ => ?_
    refine bindR_ind (Q := fun l : List Int => l.length ≤ n + 1) (by simp) fun _ => ?_
    have := intsS_len s n (takeI s a).2.1
    simp only [List.length_cons]
    omega
theorem takeT_len {s : ByteArray} {a : Int} (h : (takeT s a 12).2.2 = 0) : (takeT s a 12).1.size ≤ 12 := by
  unfold takeT at h ⊢
  split at h
  · rename_i h1; exact absurd h h1
  rename_i h1
  rw [if_neg h1]
  obtain ⟨n, q, h2, h3, h4⟩ := takeC_ok (Classical.byContradiction fun h' => h1 h')
  rw [h2]
  simp only [ByteArray.size_extract]
  omega
theorem decC_len (s : ByteArray) (a : Int) : LenC (decC s a).1 := by
  have hz : LenC zeroC := ⟨by simp, by rw [show zeroC.2.2.2.2.2.2.1.size = 0 from rfl]; omega⟩
  unfold decC
  refine bindR_ind (Q := LenC) hz fun _ => ?_
  refine bindR_ind (Q := LenC) hz fun _ => ?_
  refine bindR_ind (Q := LenC) hz fun h3 => ?_
  refine bindR_ind (Q := LenC) hz fun _ => ?_
  refine bindR_ind (Q := LenC) hz fun _ => ?_
  refine bindR_ind (Q := LenC) hz fun _ => ?_
  refine bindR_ind (Q := LenC) hz fun _ => ?_
  refine bindR_ind (Q := LenC) hz fun _ => ?_
  refine bindR_ind (Q := LenC) hz fun h9 => ?_
  refine bindR_ind (Q := LenC) hz fun _ => ?_
  refine ⟨?_, ?_⟩
  · have h1 := (takeC_n h3).2
    exact Nat.le_trans (intsS_len _ _ _) (by omega)
  · have := takeT_len h9
    simp only
    omega
def decCs (s : ByteArray) : Nat → Int → List CommandT × Int × Int
  | 0, a => ([], a, 0)
  | n + 1, a => bindR (decC s a) [] fun c a1 => bindR (decCs s n a1) [] fun l a2 => (c :: l, a2, 0)
abbrev zeroB : BatchT := (0, 0, 0, [])
noncomputable def finB (p t l : Int) (cs : List CommandT) (a : Int) : BatchT × Int × Int := bif batOK (p, t, l, cs) then ((p, t, l, cs), a, 0) else (zeroB, 0, 16)
noncomputable def decB (s : ByteArray) (a : Int) : BatchT × Int × Int :=
  bindR (takeI s a) zeroB fun p a1 => bindR (takeI s a1) zeroB fun t a2 => bindR (takeI s a2) zeroB fun l a3 => bindR (takeC s a3 16) zeroB fun n a4 => bindR (decCs s n.toNat a4) zeroB fun cs a5 => finB p t l cs a5
theorem takeC_n16 {s : ByteArray} {a : Int} (h : (takeC s a 16).2.2 = 0) : (takeC s a 16).1 = (((takeC s a 16).1.toNat : Nat) : Int) ∧ (takeC s a 16).1.toNat ≤ 16 := by
  obtain ⟨n, q, h1, h2, h3⟩ := takeC_ok h
  rw [h1]
  exact ⟨rfl, by simp only [Int.toNat_natCast]; omega⟩
section
variable {s : ByteArray} (hs : s.size ≤ 100000)
include hs
theorem wDecB_j (p t l : Int) (n : Nat) (hn : n ≤ 16) : ∀ (m k : Nat) (a : Int) (o : List CommandT), k + m = n → o.length = k → (∀ c ∈ o, LenC c) →
    input_Decode.j1 s a n k 0 0 0 [] p t l o = some (bindR (decCs s m a) zeroB fun cs a5 => finB p t l (o ++ cs) a5) := by
  intro m
  induction m with
  | zero =>
    intro k a o hk ho hc
    rw [input_Decode.j1_eq, lt_false (by omega), cond_false, inputValid_eq _ ⟨by show o.length ≤ 2000000; omega, hc⟩, Option.bind_some]
    show _ = some (finB p t l (o ++ []) a)
    rw [List.append_nil]
    unfold finB
    cases batOK (p, t, l, o) <;> rfl
  | succ m ih =>
    intro k a o hk ho hc
    rw [input_Decode.j1_eq, lt_true (by omega), cond_true, wDecC hs a, Option.bind_some]
    unfold decCs
    by_cases h : (decC s a).2.2 = 0
    · rw [bne_f h, cond_false, bindR_ok h, cond_dec, List.length_singleton, if_pos (by omega), wr_succ (n := n) (by omega) (by omega),
        ih (k + 1) _ _ (by omega) (by simp [ho]) (fun c hc' => by
          rcases List.mem_append.1 hc' with h1 | h1
          · exact hc c h1
          · simp at h1; subst h1; exact decC_len s a)]
      by_cases h2 : (decCs s m (decC s a).2.1).2.2 = 0
      · rw [bindR_ok h2, bindR_ok h2, bindR_ok rfl]
        simp
      · rw [bindR_bad h2, bindR_bad h2, bindR_err h2]
    · rw [bne_t h, cond_true, bindR_bad h, bindR_err h]
theorem wDecB (a : Int) : input_Decode.f s a = some (decB s a) := by
  have w1 : IntKind.i64.wrap (0 + 1) = 1 := rfl
  have w2 : IntKind.i64.wrap (1 + 1) = 2 := rfl
  have w3 : IntKind.i64.wrap (2 + 1) = 3 := rfl
  have q0 : ((0 : Int) == 0) = true := rfl
  have q1 : ((1 : Int) == 0) = false := rfl
  have q2 : ((1 : Int) == 1) = true := rfl
  have q3 : ((2 : Int) == 0) = false := rfl
  have q4 : ((2 : Int) == 1) = false := rfl
  have q5 : ((2 : Int) == 2) = true := rfl
  rw [input_Decode.f_eq]
  unfold decB
  rw [input_Decode.j0_eq, decide_eq_true (show (0 : Int) < 3 by omega), cond_true, q0, cond_true, wTakeI s hs a, Option.bind_some]
  by_cases h1 : (takeI s a).2.2 = 0
  rotate_left
  · rw [bne_t h1, cond_true, bindR_bad h1]
  rw [bne_f h1, cond_false, bindR_ok h1, w1]
  generalize (takeI s a).2.1 = a1
  rw [input_Decode.j0_eq, decide_eq_true (show (1 : Int) < 3 by omega), cond_true, q1, cond_false, q2, cond_true, wTakeI s hs a1, Option.bind_some]
  by_cases h2 : (takeI s a1).2.2 = 0
  rotate_left
  · rw [bne_t h2, cond_true, bindR_bad h2]
  rw [bne_f h2, cond_false, bindR_ok h2, w2]
  generalize (takeI s a1).2.1 = a2
  rw [input_Decode.j0_eq, decide_eq_true (show (2 : Int) < 3 by omega), cond_true, q3, cond_false, q4, cond_false, q5, cond_true, wTakeI s hs a2, Option.bind_some]
  by_cases h3 : (takeI s a2).2.2 = 0
  rotate_left
  · rw [bne_t h3, cond_true, bindR_bad h3]
  rw [bne_f h3, cond_false, bindR_ok h3, w3]
  generalize (takeI s a2).2.1 = a3
  rw [input_Decode.j0_eq, decide_eq_false (show ¬ (3 : Int) < 3 by omega), cond_false, wTakeC s hs a3 16 (by omega) (by omega), Option.bind_some]
  by_cases h4 : (takeC s a3 16).2.2 = 0
  rotate_left
  · rw [bne_t h4, cond_true, bindR_bad h4]
  rw [bne_f h4, cond_false, bindR_ok h4]
  obtain ⟨e1, e2⟩ := takeC_n16 h4
  have := wDecB_j hs (takeI s a).1 (takeI s a1).1 (takeI s a2).1 _ e2 _ 0 (takeC s a3 16).2.1 [] (Nat.zero_add _) rfl (by simp)
  rw [← e1, show ((0 : Nat) : Int) = 0 from rfl] at this
  rw [this]
  simp only [List.nil_append]
end
theorem decCs_len (s : ByteArray) : ∀ (n : Nat) (a : Int), (decCs s n a).1.length ≤ n ∧ ∀ c ∈ (decCs s n a).1, LenC c
  | 0, a => by simp [decCs]
  | n + 1, a => by
    unfold decCs
    refine bindR_ind (Q := fun l : List CommandT => l.length ≤ n + 1 ∧ ∀ c ∈ l, LenC c) (by simp) fun _ => ?_
    refine bindR_ind (Q := fun l : List CommandT => l.length ≤ n + 1 ∧ ∀ c ∈ l, LenC c) (by simp) fun _ => ?_
    obtain ⟨h1, h2⟩ := decCs_len s n (decC s a).2.1
    refine ⟨by simp only [List.length_cons]; omega, fun c hc => ?_⟩
    rcases List.mem_cons.1 hc with rfl | hc
    · exact decC_len s a
    · exact h2 c hc
theorem decB_len (s : ByteArray) (a : Int) : BatL (decB s a).1 := by
  have hz : BatL zeroB := ⟨by show 0 ≤ 2000000; omega, by simp⟩
  unfold decB
  refine bindR_ind (Q := BatL) hz fun _ => ?_
  refine bindR_ind (Q := BatL) hz fun _ => ?_
  refine bindR_ind (Q := BatL) hz fun _ => ?_
  refine bindR_ind (Q := BatL) hz fun h4 => ?_
  refine bindR_ind (Q := BatL) hz fun _ => ?_
  unfold finB
  cases batOK _ with
  | false => exact hz
  | true =>
    obtain ⟨h1, h2⟩ := decCs_len s (takeC s (takeI s (takeI s (takeI s a).2.1).2.1).2.1 16).1.toNat (takeC s (takeI s (takeI s (takeI s a).2.1).2.1).2.1 16).2.1
    have h3 := (takeC_n16 h4).2
    exact ⟨by show List.length (α := CommandT) _ ≤ 2000000; exact Nat.le_trans h1 (by omega), h2⟩
/-! ### what was written -/
def At (s : ByteArray) (a : Int) (t : ByteArray) : Prop := ∃ x y, s = x ++ t ++ y ∧ a = x.size
theorem At.split {s t u : ByteArray} {a : Int} (h : At s a (t ++ u)) : At s a t ∧ At s (a + t.size) u := by
  obtain ⟨x, y, rfl, rfl⟩ := h
  refine ⟨⟨x, u ++ y, by simp only [ByteArray.append_assoc], rfl⟩, ⟨x ++ t, y, by simp only [ByteArray.append_assoc], by rw [ByteArray.size_append]; omega⟩⟩
theorem At.int {s : ByteArray} {a n : Int} (h : At s a (ivT n)) (hn : I64 n) : takeI s a = (n, a + (ivT n).size, 0) := by
  obtain ⟨x, y, rfl, rfl⟩ := h
  exact takeI_at x y n hn
theorem At.cnt {s u : ByteArray} {a : Int} {n : Nat} {most : Int} (h : At s a (uvT n ++ u)) (hn : n ≤ u.size) (hm : (n : Int) ≤ most) (h64 : n < 18446744073709551616) : takeC s a most = ((n : Int), a + (uvT n).size, 0) := by
  obtain ⟨x, y, rfl, rfl⟩ := h
  have := takeC_at x (u ++ y) n most hm (by rw [ByteArray.size_append]; omega) h64
  rw [← ByteArray.append_assoc] at this
  rw [← ByteArray.append_assoc]
  exact this
theorem At.txt {s t : ByteArray} {a : Int} (h : At s a (tvT t)) (ht : t.size ≤ 12) : takeT s a 12 = (t, a + (tvT t).size, 0) := by
  obtain ⟨x, y, rfl, rfl⟩ := h
  exact takeT_at x y t 12 (by omega) (by omega)
theorem At.bool {s : ByteArray} {a : Int} {b : Bool} (h : At s a (bvT b)) : takeB s a = (b, a + (bvT b).size, 0) := by
  obtain ⟨x, y, rfl, rfl⟩ := h
  exact takeB_at x y b
theorem At.ints {s : ByteArray} : ∀ (l : List Int) {a : Int}, At s a (catI l) → (∀ n ∈ l, I64 n) → intsS s l.length a = (l, a + (catI l).size, 0)
  | [], a, _, _ => by simp [intsS, catI, size_nil]
  | x :: r, a, h, hn => by
    obtain ⟨h1, h2⟩ := At.split (t := ivT x) (u := catI r) h
    have e1 := h1.int (hn x (by simp))
    have e2 := At.ints r h2 (fun n hn' => hn n (by simp [hn']))
    rw [List.length_cons, intsS, e1, bindR_ok rfl]
    simp only
    rw [e2, bindR_ok rfl, catI, ByteArray.size_append]
    simp only
    congr 2
    omega
theorem At.cmd {s : ByteArray} {c : CommandT} {a : Int} (h : At s a (encC c)) (hf : FitC c) (hu : c.2.2.1.length ≤ 64) (hn : c.2.2.2.2.2.2.1.size ≤ 12) : decC s a = (c, a + (encC c).size, 0) := by
  obtain ⟨p, k, u, ⟨x, y⟩, t, n, nm, q⟩ := c
  have hp := hf.p
  have hk := hf.k
  have hus := hf.u
  have hx := hf.x
  have hy := hf.y
  have ht := hf.t
  have hnn := hf.n
  simp only at hp hk hus hx hy ht hnn hu hn
  unfold encC tailC at h ⊢
  simp only at h ⊢
  obtain ⟨b1, h⟩ := h.split
  obtain ⟨b2, h⟩ := h.split
  have b3 := h.cnt (most := 64) (by have := catI_ge u; rw [ByteArray.size_append]; omega) (by omega) (by omega)
  obtain ⟨_, h⟩ := h.split
  obtain ⟨b4, h⟩ := h.split
  obtain ⟨b5, h⟩ := h.split
  obtain ⟨b6, h⟩ := h.split
  obtain ⟨b7, h⟩ := h.split
  obtain ⟨b8, h⟩ := h.split
  obtain ⟨b9, b10⟩ := h.split
  have e4 := At.ints u b4 hus
  unfold decC
  rw [b1.int hp, bindR_ok rfl]
  simp only
  rw [b2.int hk, bindR_ok rfl]
  simp only
  rw [b3, bindR_ok rfl]
  simp only [Int.toNat_natCast]
  rw [e4, bindR_ok rfl]
  simp only
  rw [b5.int hx, bindR_ok rfl]
  simp only
  rw [b6.int hy, bindR_ok rfl]
  simp only
  rw [b7.int ht, bindR_ok rfl]
  simp only
  rw [b8.int hnn, bindR_ok rfl]
  simp only
  rw [b9.txt hn, bindR_ok rfl]
  simp only
  rw [b10.bool, bindR_ok rfl]
  simp only [ByteArray.size_append]
  congr 2
  omega
theorem At.cmds {s : ByteArray} : ∀ (l : List CommandT) {a : Int}, At s a (catC l) → (∀ c ∈ l, FitC c ∧ c.2.2.1.length ≤ 64 ∧ c.2.2.2.2.2.2.1.size ≤ 12) → decCs s l.length a = (l, a + (catC l).size, 0)
  | [], a, _, _ => by simp [decCs, catC, size_nil]
  | x :: r, a, h, hn => by
    obtain ⟨h1, h2⟩ := At.split (t := encC x) (u := catC r) h
    obtain ⟨f1, f2, f3⟩ := hn x (by simp)
    have e1 := h1.cmd f1 f2 f3
    have e2 := At.cmds r h2 (fun n hn' => hn n (by simp [hn']))
    rw [List.length_cons, decCs, e1, bindR_ok rfl]
    simp only
    rw [e2, bindR_ok rfl, catC, ByteArray.size_append]
    simp only
    congr 2
    omega
theorem valC_len {c : CommandT} (h : valC c = 0) : c.2.2.1.length ≤ 64 ∧ c.2.2.2.2.2.2.1.size ≤ 12 := by
  unfold valC at h
  cases h1 : (decide (c.2.1 < 1) || (decide (c.2.1 > 12) || (decide (c.1 < 1) || (decide (c.1 > 6) || !bareS c)))) with
  | true => rw [h1, cond_true] at h; cases h
  | false =>
  rw [h1, cond_false] at h
  cases h2 : decide ((c.2.2.1.length : Int) > 64) with
  | true => rw [h2, cond_true] at h; cases h
  | false =>
  rw [h2, cond_false] at h
  have hl : c.2.2.1.length ≤ 64 := by have := of_decide_eq_false h2; omega
  refine ⟨hl, ?_⟩
  simp only [Bool.or_eq_false_iff, Bool.not_eq_false'] at h1
  have hb := h1.2.2.2.2
  unfold bareS at hb
  simp only [Bool.and_eq_true] at hb
  have hm := hb.2.2.2.2.1
  rw [empty_iff] at hm
  cases hk : kM c.2.1 with
  | false =>
    rw [hk, Bool.false_or] at hm
    have := of_decide_eq_true hm
    omega
  | true =>
    refine name_len _ ?_
    rw [hk] at h
    cases hn : nameS c.2.2.2.2.2.2.1 with
    | true => rfl
    | false =>
      exfalso
      rw [hn] at h
      revert h
      generalize ((kO c.2.1 || kS c.2.1) && !idsS c) = b1
      generalize (kA c.2.1 && !vecS c.2.2.2.1) = b2
      generalize ((c.2.1 == 2) && (decide (c.2.2.2.2.1 < 1) || decide (c.2.2.2.2.1 > 1099511627776))) = b3
      generalize (kN c.2.1 && (decide (c.2.2.2.2.2.1 < 0) || decide (c.2.2.2.2.2.1 > 4))) = b4
      cases b1 <;> cases b2 <;> cases b3 <;> cases b4 <;> simp
theorem batOK_spec {b : BatchT} (h : batOK b = true) : List.length (α := CommandT) b.2.2.2 ≤ 16 ∧ ∀ c ∈ (b.2.2.2 : List CommandT), valC c = 0 := by
  unfold batOK at h
  simp only [Bool.and_eq_true, Bool.not_eq_true', decide_eq_false_iff_not] at h
  obtain ⟨_, _, _, _, _, _, h7, h8⟩ := h
  refine ⟨by have : ¬ ((List.length (α := CommandT) b.2.2.2 : Int) > 16) := h7; omega, fun c hc => ?_⟩
  rw [List.any_eq_false] at h8
  have := h8 c hc
  unfold badCmd at this
  simp only [Bool.or_eq_true, not_or, bne_iff_ne, ne_eq, Classical.not_not] at this
  exact this.1
theorem At.batch {s : ByteArray} {b : BatchT} {a : Int} (h : At s a (encB b)) (hf : FitB b) (hv : batOK b = true) : decB s a = (b, a + (encB b).size, 0) := by
  obtain ⟨hl, hc⟩ := batOK_spec hv
  obtain ⟨p, t, l, cs⟩ := b
  have hp := hf.p
  have ht := hf.t
  have hll := hf.l
  have hcs := hf.c
  simp only at hp ht hll hcs hl hc
  unfold encB at h ⊢
  simp only at h ⊢
  obtain ⟨b1, h⟩ := h.split
  obtain ⟨b2, h⟩ := h.split
  obtain ⟨b3, h⟩ := h.split
  have b4 := h.cnt (most := 16) (catC_ge cs) (by omega) (by omega)
  obtain ⟨_, b5⟩ := h.split
  have e5 := At.cmds cs b5 (fun c hc' => ⟨hcs c hc', valC_len (hc c hc')⟩)
  unfold decB
  rw [b1.int hp, bindR_ok rfl]
  simp only
  rw [b2.int ht, bindR_ok rfl]
  simp only
  rw [b3.int hll, bindR_ok rfl]
  simp only
  rw [b4, bindR_ok rfl]
  simp only [Int.toNat_natCast]
  rw [e5, bindR_ok rfl]
  unfold finB
  rw [hv, cond_true]
  simp only [ByteArray.size_append]
  congr 2
  omega
end Go.Proofs.Ytpiejdjanhnbeaa

/- Packets: equality, short ones; connections: light ones, valid ones. -/
set_option linter.unusedVariables false
set_option linter.unusedSimpArgs false
set_option maxHeartbeats 4000000
namespace Go.Proofs.Ytpiejdjanhnbeaa
open Go Go.Sk

abbrev PL := List PacketT
abbrev CL := List CommandT
def sq (p : PacketT) : Int := p.2.2.2.1
def ak (p : PacketT) : Int := p.2.2.2.2.1
def bat (p : PacketT) : BatchT := p.2.2.2.2.2.2.2.1
def dat (p : PacketT) : ByteArray := p.2.2.2.2.2.2.2.2
abbrev zeroP : PacketT := (0, 0, 0, 0, 0, 0, 0, (0, 0, 0, []), { data := #[] })
abbrev zeroC0 : ConnT := (0, 0, 0, [], [])
/-! ### equality -/
theorem samePacket_refl (p : PacketT) (h : BatL (bat p)) : ref47_SamePacket.f p p = some true := by
  rw [ref47_SamePacket.f_eq]
  simp only [beq_self_eq_true, cond_true]
  rw [show p.2.2.2.2.2.2.2.1 = bat p from rfl, rbatSame_eq _ _ h, decide_eq_true rfl]
  rfl
theorem samePackets_refl (l : PL) (hl : l.length ≤ 1000000) (h : ∀ p ∈ l, BatL (bat p)) : ref47_SamePackets.f l l = some true := by
  rw [ref47_SamePackets.f_eq, bne_self_eq_false, cond_false, any_loop l (fun i => ref47_SamePackets.j0 l l i) (fun _ => false) false (some true) (fun k hk => ?hF) ?hE]
  · rw [List.any_eq_false.2 (fun x _ => by simp)]; rfl
  case hF =>
    rw [ref47_SamePackets.j0_eq, lt_true hk, cond_true, idx_nat, List.getElem?_eq_getElem hk, Option.bind_some, Option.bind_some, samePacket_refl _ (h _ (List.getElem_mem hk)), Option.bind_some, wr_succ hk (by omega)]
    rfl
  case hE =>
    rw [ref47_SamePackets.j0_eq, lt_false (Nat.le_refl _), cond_false]
def ConnL (c : ConnT) : Prop := (c.2.2.2.1.length ≤ 1000000 ∧ ∀ p ∈ c.2.2.2.1, BatL (bat p)) ∧ (c.2.2.2.2.length ≤ 1000000 ∧ ∀ p ∈ c.2.2.2.2, BatL (bat p))
theorem same_refl (c : ConnT) (h : ConnL c) : ref47_Same.f c c = some true := by
  rw [ref47_Same.f_eq]
  simp only [beq_self_eq_true, cond_true]
  rw [samePackets_refl _ h.1.1 h.1.2, samePackets_refl _ h.2.1 h.2.2]
  rfl
/-! ### short packets -/
def bigC (c : CommandT) : Bool := decide ((c.2.2.1.length : Int) > 100) || decide ((c.2.2.2.2.2.2.1.size : Int) > 100)
def shortS (p : PacketT) : Bool := !((List.take 21 (α := CommandT) (bat p).2.2.2).any bigC) && (decide ((List.length (α := CommandT) (bat p).2.2.2 : Int) ≤ 20) && decide (((dat p).size : Int) ≤ 5000))
theorem short_eq (p : PacketT) : law47_short.f p = some (shortS p) := by
  have hfin : (bif decide ((List.length (α := CommandT) (bat p).2.2.2 : Int) ≤ 20) then some (decide (((dat p).size : Int) ≤ 5000)) else some false) = some (decide ((List.length (α := CommandT) (bat p).2.2.2 : Int) ≤ 20) && decide (((dat p).size : Int) ≤ 5000)) := by
    cases decide ((List.length (α := CommandT) (bat p).2.2.2 : Int) ≤ 20) <;> rfl
  have hl : (List.take 21 (α := CommandT) (bat p).2.2.2).length = min 21 (List.length (α := CommandT) (bat p).2.2.2) := List.length_take
  rw [law47_short.f_eq, any_loop (List.take 21 (α := CommandT) (bat p).2.2.2) (fun i => law47_short.j0 i p) bigC false (some (decide ((List.length (α := CommandT) (bat p).2.2.2 : Int) ≤ 20) && decide (((dat p).size : Int) ≤ 5000))) (fun k hk => ?hF) ?hE]
  · unfold shortS
    cases (List.take 21 (α := CommandT) (bat p).2.2.2).any bigC <;> rfl
  case hF =>
    have hk1 : k < List.length (α := CommandT) (bat p).2.2.2 := by omega
    have hk2 : (k : Int) < 21 := by omega
    have hget : (List.take 21 (α := CommandT) (bat p).2.2.2)[k] = List.get (α := CommandT) (bat p).2.2.2 ⟨k, hk1⟩ := by simp
    rw [law47_short.j0_eq, show p.2.2.2.2.2.2.2.1 = bat p from rfl, lt_true hk1, cond_true, decide_eq_true hk2, cond_true, idx_nat, List.getElem?_eq_getElem hk1, Option.bind_some, Option.bind_some, wr_succ hk (by omega), hget]
    unfold bigC
    rw [show List.get (α := CommandT) (bat p).2.2.2 ⟨k, hk1⟩ = (bat p).2.2.2[k] from rfl]
    cases decide (((bat p).2.2.2[k].2.2.1.length : Int) > 100) <;> cases decide (((bat p).2.2.2[k].2.2.2.2.2.2.1.size : Int) > 100) <;> rfl
  case hE =>
    rw [law47_short.j0_eq, show p.2.2.2.2.2.2.2.1 = bat p from rfl, show p.2.2.2.2.2.2.2.2 = dat p from rfl, hfin]
    rcases Nat.lt_or_ge 21 (List.length (α := CommandT) (bat p).2.2.2) with h | h
    · rw [decide_eq_false (show ¬ (((List.take 21 (α := CommandT) (bat p).2.2.2).length : Nat) : Int) < 21 by omega), cond_false]
      cases decide (((List.take 21 (α := CommandT) (bat p).2.2.2).length : Int) < (List.length (α := CommandT) (bat p).2.2.2 : Int)) <;> rfl
    · rw [decide_eq_false (show ¬ (((List.take 21 (α := CommandT) (bat p).2.2.2).length : Nat) : Int) < (List.length (α := CommandT) (bat p).2.2.2 : Int) by omega), cond_false]
structure Short (p : PacketT) : Prop where
  len : List.length (α := CommandT) (bat p).2.2.2 ≤ 20
  cmds : ∀ c ∈ ((bat p).2.2.2 : CL), LenC c
  dat : (dat p).size ≤ 5000
theorem short_spec {p : PacketT} (h : shortS p = true) : Short p := by
  unfold shortS at h
  simp only [Bool.and_eq_true, Bool.not_eq_true', decide_eq_true_eq] at h
  obtain ⟨h1, h2, h3⟩ := h
  refine ⟨by omega, fun c hc => ?_, by omega⟩
  rw [List.take_of_length_le (by omega)] at h1
  have h4 := List.any_eq_false.1 h1 c hc
  unfold bigC at h4
  simp only [Bool.or_eq_true, decide_eq_true_eq, not_or] at h4
  exact ⟨by omega, by omega⟩
theorem Short.bat {p : PacketT} (h : Short p) : BatL (bat p) := ⟨by have := h.len; show List.length (α := CommandT) _ ≤ 2000000; omega, h.cmds⟩
/-! ### light connections -/
def lightS (c : ConnT) : Bool := !((List.take 41 (c.2.2.2.1 ++ c.2.2.2.2)).any fun p => !shortS p) && decide (((c.2.2.2.1 ++ c.2.2.2.2).length : Int) ≤ 40)
theorem light_eq (c : ConnT) (h : (c.2.2.2.1.length + c.2.2.2.2.length) * 120 ≤ 140737488355328) : law47_light.f c = some (lightS c) := by
  have hl : (List.take 41 (c.2.2.2.1 ++ c.2.2.2.2)).length = min 41 (c.2.2.2.1 ++ c.2.2.2.2).length := List.length_take
  rw [law47_light.f_eq, cond_dec, if_pos (by omega), cond_dec, if_pos (by rw [List.nil_append]; omega), List.nil_append]
  unfold lightS
  generalize hX : c.2.2.2.1 ++ c.2.2.2.2 = X at *
  have hXl : X.length * 120 ≤ 140737488355328 := by rw [← hX, List.length_append]; exact h
  rw [any_loop (List.take 41 X) (fun i => law47_light.j0 i X) (fun p => !shortS p) false (some (decide ((X.length : Int) ≤ 40))) (fun k hk => ?hF) ?hE]
  · cases (List.take 41 X).any (fun p => !shortS p) <;> rfl
  case hF =>
    have hk1 : k < X.length := by omega
    have hk2 : (k : Int) < 41 := by omega
    have hget : (List.take 41 X)[k] = X[k] := by simp
    rw [law47_light.j0_eq, lt_true hk1, cond_true, decide_eq_true hk2, cond_true, Bool.and_true, decide_eq_true (Int.natCast_nonneg k), cond_true, Int.toNat_natCast, List.getElem?_eq_getElem hk1, Option.bind_some, short_eq, Option.bind_some, wr_succ hk (by omega), hget]
  case hE =>
    rw [law47_light.j0_eq]
    rcases Nat.lt_or_ge 41 X.length with h | h
    · rw [decide_eq_false (show ¬ (((List.take 41 X).length : Nat) : Int) < 41 by omega), cond_false]
      cases decide (((List.take 41 X).length : Int) < (X.length : Int)) <;> rfl
    · rw [decide_eq_false (show ¬ (((List.take 41 X).length : Nat) : Int) < (X.length : Int) by omega), cond_false]
structure Light (c : ConnT) : Prop where
  len : c.2.2.2.1.length + c.2.2.2.2.length ≤ 40
  sent : ∀ p ∈ c.2.2.2.1, Short p
  held : ∀ p ∈ c.2.2.2.2, Short p
theorem light_spec {c : ConnT} (h : lightS c = true) : Light c := by
  unfold lightS at h
  simp only [Bool.and_eq_true, Bool.not_eq_true', decide_eq_true_eq] at h
  obtain ⟨h1, h2⟩ := h
  rw [List.take_of_length_le (by omega)] at h1
  have h3 := List.any_eq_false.1 h1
  have h4 : ∀ p ∈ c.2.2.2.1 ++ c.2.2.2.2, Short p := fun p hp => short_spec (by simpa using h3 p hp)
  rw [List.length_append] at h2
  exact ⟨by omega, fun p hp => h4 p (List.mem_append.2 (.inl hp)), fun p hp => h4 p (List.mem_append.2 (.inr hp))⟩
theorem Light.conn {c : ConnT} (h : Light c) : ConnL c := ⟨⟨by have := h.len; omega, fun p hp => (h.sent p hp).bat⟩, ⟨by have := h.len; omega, fun p hp => (h.held p hp).bat⟩⟩
/-! ### valid connections -/
def maxN : Int := 1099511627776
def headS (c : ConnT) : Bool := !decide (c.1 < 1) && (!decide (c.1 > 12) && (!decide (c.2.1 < 1) && (!decide (c.2.1 > 1099511627776) && (!decide (c.2.2.1 < 0) && (!decide (c.2.2.1 > 1099511627776) && !decide ((c.2.2.2.1.length : Int) > 16))))))
def sentS (peer : Int) : Int → PL → Bool
  | _, [] => true
  | n, p :: r => p.2.1 == peer && (decide (1 ≤ n) && (sq p == n && sentS peer (n + 1) r))
def heldS (peer got : Int) : Int → PL → Bool
  | _, [] => true
  | last, p :: r => p.1 == peer && (decide (last < sq p) && (decide (sq p ≤ got + 16) && (decide (sq p ≤ 1099511627776) && heldS peer got (sq p) r)))
def validS (c : ConnT) : Bool := headS c && (sentS c.1 (c.2.1 - c.2.2.2.1.length) c.2.2.2.1 && heldS c.1 c.2.2.1 (c.2.2.1 + 1) c.2.2.2.2)
end Go.Proofs.Ytpiejdjanhnbeaa

/- Valid connections, on both sides. -/
set_option linter.unusedVariables false
set_option linter.unusedSimpArgs false
set_option maxHeartbeats 4000000
namespace Go.Proofs.Ytpiejdjanhnbeaa
open Go Go.Sk

theorem bne_c {α : Type} [BEq α] [LawfulBEq α] (a b : α) : (a != b) = !(a == b) := rfl
theorem wValid_j3 (c : ConnT) (hl : c.2.2.2.2.length ≤ 1000000) (hg : I64 c.2.2.1) (hg2 : c.2.2.1 ≤ 1099511627776) : ∀ (m k : Nat) (last : Int), k + m = c.2.2.2.2.length → link_Valid.j3 last c.2.2.2.2 c.2.2.2.2.length k c = some (heldS c.1 c.2.2.1 last (c.2.2.2.2.drop k)) := by
  intro m
  induction m with
  | zero =>
    intro k last hk
    rw [link_Valid.j3_eq, decide_eq_false (by omega), cond_false, List.drop_of_length_le (by omega)]
    rfl
  | succ m ih =>
    intro k last hk
    have hlt : k < c.2.2.2.2.length := by omega
    have h1 := hg.1
    rw [link_Valid.j3_eq, lt_true hlt, cond_true, idx_nat, List.getElem?_eq_getElem hlt, Option.bind_some, List.drop_eq_getElem_cons hlt, wr_in (x := c.2.2.1 + 16) (by omega) (by omega)]
    have ih' := ih (k + 1) (sq c.2.2.2.2[k]) (by omega)
    simp only [link_Valid.j4_eq, cond_true, wr_succ hlt (show c.2.2.2.2.length ≤ 9223372036854775807 by omega)]
    rw [show c.2.2.2.2[k].2.2.2.1 = sq c.2.2.2.2[k] from rfl, ih']
    simp only [heldS]
    generalize c.2.2.2.2[k] = p
    rw [bne_c]
    by_cases e2 : sq p ≤ last
    · rw [decide_eq_true e2, decide_eq_false (show ¬ last < sq p by omega)]
      cases p.1 == c.1 <;> rfl
    · rw [decide_eq_false e2, decide_eq_true (show last < sq p by omega)]
      by_cases e3 : sq p > c.2.2.1 + 16
      · rw [decide_eq_true e3, decide_eq_false (show ¬ sq p ≤ c.2.2.1 + 16 by omega)]
        cases p.1 == c.1 <;> rfl
      · rw [decide_eq_false e3, decide_eq_true (show sq p ≤ c.2.2.1 + 16 by omega)]
        by_cases e4 : sq p > 1099511627776
        · rw [decide_eq_true e4, decide_eq_false (show ¬ sq p ≤ 1099511627776 by omega)]
          cases p.1 == c.1 <;> rfl
        · rw [decide_eq_false e4, decide_eq_true (show sq p ≤ 1099511627776 by omega)]
          cases p.1 == c.1 <;> rfl
theorem wValid_j1 (c : ConnT) (hs : c.2.2.2.1.length ≤ 1000000) (hl : c.2.2.2.2.length ≤ 1000000) (hg : I64 c.2.2.1) (hg2 : c.2.2.1 ≤ 1099511627776) (first : Int) (hf : -1000000 ≤ first ∧ first ≤ 1099511627776) :
    ∀ (m k : Nat), k + m = c.2.2.2.1.length → link_Valid.j1 first c.2.2.2.1 c.2.2.2.1.length k c = some (sentS c.1 (first + k) (c.2.2.2.1.drop k) && heldS c.1 c.2.2.1 (c.2.2.1 + 1) c.2.2.2.2) := by
  intro m
  have h1 := hg.1
  induction m with
  | zero =>
    intro k hk
    have := wValid_j3 c hl hg hg2 c.2.2.2.2.length 0 (c.2.2.1 + 1) (by omega)
    rw [link_Valid.j1_eq, decide_eq_false (by omega), cond_false, List.drop_of_length_le (by omega), wr_in (by omega) (by omega)]
    exact this
  | succ m ih =>
    intro k hk
    have hlt : k < c.2.2.2.1.length := by omega
    have ih' := ih (k + 1) (by omega)
    rw [link_Valid.j1_eq, lt_true hlt, cond_true, idx_nat, List.getElem?_eq_getElem hlt, Option.bind_some, List.drop_eq_getElem_cons hlt, wr_in (x := first + (k : Int)) (by omega) (by omega)]
    simp only [link_Valid.j2_eq, cond_true, wr_succ hlt (show c.2.2.2.1.length ≤ 9223372036854775807 by omega)]
    rw [ih']
    simp only [sentS]
    rw [show first + ((k + 1 : Nat) : Int) = first + k + 1 by omega]
    generalize c.2.2.2.1[k] = p
    rw [bne_c, bne_c]
    show (bif !p.2.1 == c.1 then some false else bif decide (sq p < 1) then some false else bif !sq p == first + k then some false else _) = _
    by_cases e2 : sq p = first + k
    · rw [beq_iff_eq.2 e2]
      by_cases e3 : sq p < 1
      · rw [decide_eq_true e3, decide_eq_false (show ¬ 1 ≤ first + (k : Int) by omega)]
        cases p.2.1 == c.1 <;> rfl
      · rw [decide_eq_false e3, decide_eq_true (show 1 ≤ first + (k : Int) by omega)]
        cases p.2.1 == c.1 <;> rfl
    · rw [beq_eq_false_iff_ne.2 e2]
      cases p.2.1 == c.1 <;> cases decide (sq p < 1) <;> cases decide (1 ≤ first + (k : Int)) <;> rfl
theorem wValid (c : ConnT) (h : ConnL c) (hg : I64 c.2.2.1) : link_Valid.f c = some (validS c) := by
  have hs := h.1.1
  have hl := h.2.1
  have bad : ∀ c, link_Valid.j0 true c = some false := fun c => by rw [link_Valid.j0_eq]; rfl
  rw [link_Valid.f_eq]
  unfold validS headS
  cases e1 : decide (c.1 < 1) with
  | true => rw [cond_true, bad]; rfl
  | false =>
  cases e2 : decide (c.1 > 12) with
  | true => rw [cond_false, cond_true, bad]; rfl
  | false =>
  cases e3 : decide (c.2.1 < 1) with
  | true => rw [cond_false, cond_false, cond_true, bad]; rfl
  | false =>
  cases e4 : decide (c.2.1 > 1099511627776) with
  | true => rw [cond_false, cond_false, cond_false, cond_true, bad]; rfl
  | false =>
  cases e5 : decide (c.2.2.1 < 0) with
  | true => rw [cond_false, cond_false, cond_false, cond_false, cond_true, bad]; rfl
  | false =>
  cases e6 : decide (c.2.2.1 > 1099511627776) with
  | true => rw [cond_false, cond_false, cond_false, cond_false, cond_false, cond_true, bad]; rfl
  | false =>
  cases e7 : decide ((c.2.2.2.1.length : Int) > 16) with
  | true => rw [cond_false, cond_false, cond_false, cond_false, cond_false, cond_false, bad]; rfl
  | false =>
    have d3 := of_decide_eq_false e3
    have d4 := of_decide_eq_false e4
    have d6 := of_decide_eq_false e6
    have d7 := of_decide_eq_false e7
    have := wValid_j1 c hs hl hg (by omega) (c.2.1 - c.2.2.2.1.length) (by omega) c.2.2.2.1.length 0 (by omega)
    simp only [cond_false]
    rw [link_Valid.j0_eq, cond_false, wr_in (by omega) (by omega)]
    rw [show ((0 : Nat) : Int) = 0 from rfl, Int.add_zero, List.drop_zero] at this
    rw [this]
    rfl
theorem rCount (n lo : Int) : ref47_count.f n lo = some (decide (lo ≤ n) && decide (n ≤ 1099511627776)) := by
  rw [ref47_count.f_eq]
  by_cases h : n ≥ lo
  · rw [decide_eq_true h]; rfl
  · rw [decide_eq_false h]; rfl
theorem rValid_j3 (c : ConnT) (hl : c.2.2.2.2.length ≤ 1000000) (hg : 0 ≤ c.2.2.1) (hg2 : c.2.2.1 ≤ 1099511627776) : ∀ (m k : Nat) (last : Int), k + m = c.2.2.2.2.length → (k = 0 → last = c.2.2.1 + 1) → (∀ (h : 0 < k) (hk : k - 1 < c.2.2.2.2.length), last = sq (c.2.2.2.2[k - 1]) ∧ c.2.2.1 + 1 < last) →
    ref47_Valid.j3 k c = some (heldS c.1 c.2.2.1 last (c.2.2.2.2.drop k)) := by
  intro m
  induction m with
  | zero =>
    intro k last hk _ _
    rw [ref47_Valid.j3_eq, decide_eq_false (by omega), cond_false, List.drop_of_length_le (by omega)]
    rfl
  | succ m ih =>
    intro k last hk h0 h1
    have hlt : k < c.2.2.2.2.length := by omega
    have hlast : c.2.2.1 + 1 ≤ last := by
      rcases Nat.eq_zero_or_pos k with h | h
      · rw [h0 h]; exact Int.le_refl _
      · exact Int.le_of_lt (h1 h (by omega)).2
    rw [ref47_Valid.j3_eq, lt_true hlt, cond_true, idx_nat, List.getElem?_eq_getElem hlt, Option.bind_some, List.drop_eq_getElem_cons hlt, wr_in (x := c.2.2.1 + 16) (by omega) (by omega), wr_in (x := c.2.2.1 + 2) (by omega) (by omega)]
    simp only [ref47_Valid.j4_eq, cond_true, wr_succ hlt (show c.2.2.2.2.length ≤ 9223372036854775807 by omega)]
    have hprev : (bif decide ((k : Int) > 0) then ((idx c.2.2.2.2 (IntKind.i64.wrap ((k : Int) - 1))) : Option PacketT).bind fun e1 => (bif decide (c.2.2.2.2[k].2.2.2.1 ≤ e1.2.2.2.1) then some false else ref47_Valid.j3 ((k + 1 : Nat) : Int) c) else (bif false then some false else ref47_Valid.j3 ((k + 1 : Nat) : Int) c))
        = bif decide (0 < k ∧ sq c.2.2.2.2[k] ≤ last) then some false else ref47_Valid.j3 ((k + 1 : Nat) : Int) c := by
      rcases Nat.eq_zero_or_pos k with h | h
      · subst h
        rw [decide_eq_false (by omega), decide_eq_false (by omega)]
        rfl
      · have hp : k - 1 < c.2.2.2.2.length := by omega
        rw [decide_eq_true (show (k : Int) > 0 by omega), cond_true, wr_in (x := (k : Int) - 1) (by omega) (by omega), show (k : Int) - 1 = ((k - 1 : Nat) : Int) by omega, idx_nat, List.getElem?_eq_getElem hp, Option.bind_some]
        have := (h1 h hp).1
        have e : decide (c.2.2.2.2[k].2.2.2.1 ≤ c.2.2.2.2[k - 1].2.2.2.1) = decide (0 < k ∧ sq c.2.2.2.2[k] ≤ last) := by
          apply decide_eq_decide.2
          rw [this]
          exact ⟨fun h' => ⟨h, h'⟩, fun h' => h'.2⟩
        rw [e]
    rw [hprev, show c.2.2.2.2[k].2.2.2.1 = sq c.2.2.2.2[k] from rfl]
    simp only [heldS]
    by_cases e2 : sq c.2.2.2.2[k] < c.2.2.1 + 2
    · rw [decide_eq_true e2, decide_eq_false (show ¬ last < sq c.2.2.2.2[k] by omega), bne_c]
      cases c.2.2.2.2[k].1 == c.1 <;> rfl
    · have ih' := ih (k + 1) (sq c.2.2.2.2[k]) (by omega) (by omega) (fun _ _ => ⟨by simp, by omega⟩)
      rw [ih', decide_eq_false e2, bne_c]
      by_cases e5 : 0 < k ∧ sq c.2.2.2.2[k] ≤ last
      · rw [decide_eq_true e5, decide_eq_false (show ¬ last < sq c.2.2.2.2[k] by omega)]
        cases c.2.2.2.2[k].1 == c.1 <;> cases decide (sq c.2.2.2.2[k] > c.2.2.1 + 16) <;> cases decide (sq c.2.2.2.2[k] > 1099511627776) <;> rfl
      · have h6 : last < sq c.2.2.2.2[k] := by
          rcases Nat.eq_zero_or_pos k with h | h
          · have := h0 h; omega
          · omega
        rw [decide_eq_false e5, decide_eq_true h6]
        by_cases e3 : sq c.2.2.2.2[k] > c.2.2.1 + 16
        · rw [decide_eq_true e3, decide_eq_false (show ¬ sq c.2.2.2.2[k] ≤ c.2.2.1 + 16 by omega)]
          cases c.2.2.2.2[k].1 == c.1 <;> rfl
        · rw [decide_eq_false e3, decide_eq_true (show sq c.2.2.2.2[k] ≤ c.2.2.1 + 16 by omega)]
          by_cases e4 : sq c.2.2.2.2[k] > 1099511627776
          · rw [decide_eq_true e4, decide_eq_false (show ¬ sq c.2.2.2.2[k] ≤ 1099511627776 by omega)]
            cases c.2.2.2.2[k].1 == c.1 <;> rfl
          · rw [decide_eq_false e4, decide_eq_true (show sq c.2.2.2.2[k] ≤ 1099511627776 by omega)]
            cases c.2.2.2.2[k].1 == c.1 <;> rfl
theorem rValid_j1 (c : ConnT) (hs : c.2.2.2.1.length ≤ 1000000) (hl : c.2.2.2.2.length ≤ 1000000) (hg : 0 ≤ c.2.2.1) (hg2 : c.2.2.1 ≤ 1099511627776) (hn : (c.2.2.2.1.length : Int) < c.2.1) (hn2 : c.2.1 ≤ 1099511627776) :
    ∀ (m k : Nat), k + m = c.2.2.2.1.length → ref47_Valid.j1 k c = some (sentS c.1 (c.2.1 - c.2.2.2.1.length + k) (c.2.2.2.1.drop k) && heldS c.1 c.2.2.1 (c.2.2.1 + 1) c.2.2.2.2) := by
  intro m
  induction m with
  | zero =>
    intro k hk
    have := rValid_j3 c hl hg hg2 c.2.2.2.2.length 0 (c.2.2.1 + 1) (by omega) (fun _ => rfl) (fun h => by omega)
    rw [ref47_Valid.j1_eq, decide_eq_false (by omega), cond_false, List.drop_of_length_le (by omega)]
    exact this
  | succ m ih =>
    intro k hk
    have hlt : k < c.2.2.2.1.length := by omega
    have ih' := ih (k + 1) (by omega)
    rw [ref47_Valid.j1_eq, lt_true hlt, cond_true, idx_nat, List.getElem?_eq_getElem hlt, Option.bind_some, Option.bind_some, List.drop_eq_getElem_cons hlt, wr_in (x := c.2.1 - (c.2.2.2.1.length : Int)) (by omega) (by omega), wr_in (x := c.2.1 - (c.2.2.2.1.length : Int) + (k : Int)) (by omega) (by omega)]
    simp only [ref47_Valid.j2_eq, cond_true, wr_succ hlt (show c.2.2.2.1.length ≤ 9223372036854775807 by omega)]
    rw [ih']
    simp only [sentS]
    rw [show c.2.1 - (c.2.2.2.1.length : Int) + ((k + 1 : Nat) : Int) = c.2.1 - (c.2.2.2.1.length : Int) + k + 1 by omega]
    generalize c.2.2.2.1[k] = p
    rw [bne_c, bne_c, decide_eq_true (show 1 ≤ c.2.1 - (c.2.2.2.1.length : Int) + (k : Int) by omega)]
    show (bif !p.2.1 == c.1 then some false else bif !sq p == _ then some false else _) = _
    cases p.2.1 == c.1 <;> cases sq p == c.2.1 - (c.2.2.2.1.length : Int) + k <;> rfl
theorem sentS_len (peer : Int) : ∀ (l : PL) (n : Int), sentS peer n l = true → l = [] ∨ 1 ≤ n
  | [], _, _ => .inl rfl
  | p :: r, n, h => by
    simp only [sentS, Bool.and_eq_true, decide_eq_true_eq] at h
    exact .inr h.2.1
theorem rValid (c : ConnT) (h : ConnL c) : ref47_Valid.f c = some (validS c) := by
  have hs := h.1.1
  have hl := h.2.1
  have bad : ∀ c, ref47_Valid.j0 true c = some false := fun c => by rw [ref47_Valid.j0_eq]; rfl
  rw [ref47_Valid.f_eq, rCount, rCount]
  unfold validS headS
  cases e1 : decide (c.1 < 1) with
  | true => rw [cond_true, bad]; rfl
  | false =>
  cases e2 : decide (c.1 > 12) with
  | true => rw [cond_false, cond_true, bad]; rfl
  | false =>
  simp only [cond_false, Option.bind_some]
  by_cases e3 : c.2.1 < 1
  · rw [decide_eq_true e3, decide_eq_false (show ¬ 1 ≤ c.2.1 by omega), bad]; rfl
  rw [decide_eq_false e3, decide_eq_true (show 1 ≤ c.2.1 by omega)]
  by_cases e4 : c.2.1 > 1099511627776
  · rw [decide_eq_true e4, decide_eq_false (show ¬ c.2.1 ≤ 1099511627776 by omega), bad]; rfl
  rw [decide_eq_false e4, decide_eq_true (show c.2.1 ≤ 1099511627776 by omega)]
  by_cases e5 : c.2.2.1 < 0
  · rw [decide_eq_true e5, decide_eq_false (show ¬ 0 ≤ c.2.2.1 by omega), bad]; rfl
  rw [decide_eq_false e5, decide_eq_true (show 0 ≤ c.2.2.1 by omega)]
  by_cases e6 : c.2.2.1 > 1099511627776
  · rw [decide_eq_true e6, decide_eq_false (show ¬ c.2.2.1 ≤ 1099511627776 by omega), bad]; rfl
  rw [decide_eq_false e6, decide_eq_true (show c.2.2.1 ≤ 1099511627776 by omega)]
  cases e7 : decide ((c.2.2.2.1.length : Int) > 16) with
  | true => rw [bad]; rfl
  | false =>
    have d7 := of_decide_eq_false e7
    simp only [Bool.and_self, Bool.not_true, Bool.not_false, cond_false, Bool.true_and]
    by_cases e8 : (c.2.2.2.1.length : Int) ≥ c.2.1
    · rw [decide_eq_true e8, bad]
      cases h9 : sentS c.1 (c.2.1 - (c.2.2.2.1.length : Int)) c.2.2.2.1 with
      | false => rfl
      | true =>
        exfalso
        rcases sentS_len _ _ _ h9 with h10 | h10
        · rw [h10] at e8; simp at e8; omega
        · omega
    · rw [decide_eq_false e8, ref47_Valid.j0_eq, cond_false]
      have := rValid_j1 c hs hl (by omega) (by omega) (by omega) (by omega) c.2.2.2.1.length 0 (by omega)
      rw [show ((0 : Nat) : Int) = 0 from rfl, Int.add_zero, List.drop_zero] at this
      exact this
end Go.Proofs.Ytpiejdjanhnbeaa

/- Send, Resend, and what DeleteFunc leaves. -/
set_option linter.unusedVariables false
set_option linter.unusedSimpArgs false
set_option maxHeartbeats 4000000
namespace Go.Proofs.Ytpiejdjanhnbeaa
open Go Go.Sk

theorem clone_p (s : PL) (hs : s.length ≤ 1000000) : slices_Clone.f s = some s := by
  have e : cfg.prim 26 [(.one (.slc cPacket s))] [] ⟨[.one (.own cPacket)], 0⟩ = some s := if_pos (by show s.length * 120 ≤ _; omega)
  unfold slices_Clone.f callX orPrim
  rw [e]
  rfl
/-! ### what valid means -/
structure Vld (c : ConnT) : Prop where
  p1 : 1 ≤ c.1
  p2 : c.1 ≤ 12
  n1 : 1 ≤ c.2.1
  n2 : c.2.1 ≤ 1099511627776
  g1 : 0 ≤ c.2.2.1
  g2 : c.2.2.1 ≤ 1099511627776
  len : c.2.2.2.1.length ≤ 16
  sent : sentS c.1 (c.2.1 - c.2.2.2.1.length) c.2.2.2.1 = true
  held : heldS c.1 c.2.2.1 (c.2.2.1 + 1) c.2.2.2.2 = true
theorem valid_iff (c : ConnT) : validS c = true ↔ Vld c := by
  unfold validS headS
  simp only [Bool.and_eq_true, Bool.not_eq_true', decide_eq_false_iff_not]
  constructor
  · rintro ⟨⟨h1, h2, h3, h4, h5, h6, h7⟩, h8, h9⟩
    exact ⟨by omega, by omega, by omega, by omega, by omega, by omega, by omega, h8, h9⟩
  · rintro ⟨h1, h2, h3, h4, h5, h6, h7, h8, h9⟩
    exact ⟨⟨by omega, by omega, by omega, by omega, by omega, by omega, by omega⟩, h8, h9⟩
theorem Vld.first {c : ConnT} (h : Vld c) : (c.2.2.2.1.length : Int) < c.2.1 := by
  rcases sentS_len _ _ _ h.sent with e | e
  · rw [e]; have := h.n1; simp; omega
  · omega
/-! ### Send -/
def stamp (c : ConnT) (p : PacketT) : PacketT := (p.1, p.2.1, p.2.2.1, c.2.1, c.2.2.1, p.2.2.2.2.2)
def sendS (c : ConnT) (p : PacketT) : ConnT × PacketT × Int :=
  bif !validS c then (zeroC0, zeroP, 1) else bif p.2.1 != c.1 then (zeroC0, zeroP, 1) else bif decide ((c.2.2.2.1.length : Int) ≥ 16) then (zeroC0, zeroP, 17) else bif decide (c.2.1 ≥ 1099511627776) then (zeroC0, zeroP, 17) else
    ((c.1, c.2.1 + 1, c.2.2.1, c.2.2.2.1 ++ [stamp c p], c.2.2.2.2), stamp c p, 0)
theorem some_c {α : Type} (b : Bool) (x y : α) : (bif b then some x else some y) = some (bif b then x else y) := by cases b <;> rfl
theorem wSend (c : ConnT) (p : PacketT) (h : ConnL c) (hg : I64 c.2.2.1) : link_Send.f c p = some (sendS c p) := by
  rw [link_Send.f_eq, wValid c h hg, Option.bind_some]
  unfold sendS
  cases hv : validS c with
  | false => rfl
  | true =>
    have hV := (valid_iff c).1 hv
    have h1 := hV.n1
    have h2 := hV.n2
    have hl := h.1.1
    rw [Bool.not_true, cond_false, cond_false, clone_p _ hl, Option.bind_some]
    cases p.2.1 != c.1 with
    | true => rfl
    | false =>
      rw [cond_false, cond_false]
      cases hd : decide ((c.2.2.2.1.length : Int) ≥ 16) with
      | true => rfl
      | false =>
        have h16 := of_decide_eq_false hd
        rw [cond_false, cond_false]
        by_cases h3 : c.2.1 = 1099511627776
        · rw [beq_iff_eq.2 h3, decide_eq_true (show c.2.1 ≥ 1099511627776 by omega)]; rfl
        · rw [beq_eq_false_iff_ne.2 h3, decide_eq_false (show ¬ c.2.1 ≥ 1099511627776 by omega), cond_false, cond_false, decide_eq_true (by simp; omega), cond_true, wr_in (by omega) (by omega)]
          rfl
theorem rSend (c : ConnT) (p : PacketT) (h : ConnL c) : ref47_Send.f c p = some (sendS c p) := by
  rw [ref47_Send.f_eq, rValid c h, Option.bind_some]
  unfold sendS
  cases hv : validS c with
  | false => rfl
  | true =>
    have hV := (valid_iff c).1 hv
    have h1 := hV.n1
    have h2 := hV.n2
    have hl := h.1.1
    rw [Bool.not_true, cond_false, cond_false]
    cases p.2.1 != c.1 with
    | true => rfl
    | false =>
      rw [cond_false, cond_false]
      cases hd : decide ((c.2.2.2.1.length : Int) ≥ 16) with
      | true => rfl
      | false =>
        have h16 := of_decide_eq_false hd
        rw [cond_false, cond_false]
        by_cases h3 : c.2.1 ≥ 1099511627776
        · rw [decide_eq_true h3]; rfl
        · rw [decide_eq_false h3, cond_false, cond_false, decide_eq_true (by omega), cond_true, decide_eq_true (by simp; omega), cond_true, wr_in (by omega) (by omega)]
          rfl
/-! ### Resend -/
def acked (c : ConnT) (p : PacketT) : PacketT := (p.1, p.2.1, p.2.2.1, p.2.2.2.1, c.2.2.1, p.2.2.2.2.2)
def resendS (c : ConnT) : PL := bif !validS c then [] else c.2.2.2.1.map (acked c)
theorem wResend (c : ConnT) (h : ConnL c) (hg : I64 c.2.2.1) : link_Resend.f c = some (resendS c) := by
  have hl := h.1.1
  have key : ∀ (m k : Nat) (o : PL), k + m = o.length → o.length ≤ 1000000 → link_Resend.j0 o.length k c o = some (o.take k ++ (o.drop k).map (acked c)) := by
    intro m
    induction m with
    | zero =>
      intro k o hk ho
      rw [link_Resend.j0_eq, decide_eq_false (by omega), cond_false, List.drop_of_length_le (by omega), List.take_of_length_le (by omega)]
      simp
    | succ m ih =>
      intro k o hk ho
      have hlt : k < o.length := by omega
      rw [link_Resend.j0_eq, lt_true hlt, cond_true, decide_eq_true (Int.natCast_nonneg k), Bool.and_true, cond_true, Int.toNat_natCast, List.getElem?_eq_getElem hlt, Option.bind_some, wr_succ hlt (by omega)]
      have := ih (k + 1) (o.set k (acked c o[k])) (by simp; omega) (by simpa using ho)
      rw [List.length_set] at this
      rw [show (o[k].1, o[k].2.1, o[k].2.2.1, o[k].2.2.2.1, c.2.2.1, o[k].2.2.2.2.2) = acked c o[k] from rfl, this]
      congr 1
      rw [List.drop_eq_getElem_cons hlt, List.map_cons, List.drop_set_of_lt (by omega)]
      rw [List.take_succ_eq_append_getElem (by simpa using hlt), List.getElem_set_self, List.take_set_of_le (by omega), List.append_assoc]
      rfl
  rw [link_Resend.f_eq, wValid c h hg, Option.bind_some, clone_p _ hl, Option.bind_some]
  unfold resendS
  cases validS c with
  | false => rfl
  | true => exact key c.2.2.2.1.length 0 _ (by omega) hl
theorem rResend (c : ConnT) (h : ConnL c) : ref47_Resend.f c = some (resendS c) := by
  have hl := h.1.1
  rw [ref47_Resend.f_eq, rValid c h, Option.bind_some]
  unfold resendS
  cases validS c with
  | false => rfl
  | true =>
    rw [Bool.not_true, cond_false, cond_false]
    exact map_loop c.2.2.2.1 (fun o i => ref47_Resend.j0 i c o) (acked c) some (fun acc k hk ha => by
      rw [ref47_Resend.j0_eq, lt_true hk, cond_true, idx_nat, List.getElem?_eq_getElem hk, Option.bind_some, decide_eq_true (by simp; omega), cond_true, wr_succ hk (by omega)]
      rfl) (fun acc _ => by
      rw [ref47_Resend.j0_eq, lt_false (Nat.le_refl _), cond_false])
/-! ### DeleteFunc -/
def later (a : Int) (x : PacketT) : Bool := !decide (sq x ≤ a)
theorem del_j0 (p : PacketT) (l : PL) (hl : l.length ≤ 1000000) : ∀ (m j i : Nat) (o : PL), j + m = l.length → i ≤ j → o.length = l.length → o.take i = (l.take j).filter (later (ak p)) → o.drop j = l.drop j →
    slices_DeleteFunc.j0 i j p o = some (l.filter (later (ak p)), p.1, p.2.1, p.2.2.1, p.2.2.2.1, p.2.2.2.2.1, p.2.2.2.2.2.1, p.2.2.2.2.2.2.1, p.2.2.2.2.2.2.2.1.1, p.2.2.2.2.2.2.2.1.2.1, p.2.2.2.2.2.2.2.1.2.2.1, p.2.2.2.2.2.2.2.1.2.2.2, p.2.2.2.2.2.2.2.2) := by
  intro m
  induction m with
  | zero =>
    intro j i o hj hij ho ht hd
    have hil : i ≤ o.length := by omega
    rw [slices_DeleteFunc.j0_eq, decide_eq_false (by omega), cond_false]
    have e1 : Int.toNat ((o.length : Int) - (i : Int)) = o.length - i := by omega
    rw [e1]
    have hlen : (List.take (Int.toNat (i : Int)) o ++ List.replicate (o.length - i) ((0, 0, 0, 0, 0, 0, 0, (0, 0, 0, []), { data := #[] }) : PacketT) ++ List.drop (Int.toNat (i : Int) + (o.length - i)) o).length = o.length := by
      simp; omega
    rw [hlen, decide_eq_true (show (0 : Int) ≤ (i : Int) by omega), decide_eq_true (show (i : Int) ≤ (o.length : Int) by omega), decide_eq_true (Int.le_refl _), decide_eq_true (Nat.le_refl 0), Bool.and_self, Bool.and_self, cond_true,
      decide_eq_true (by omega), cond_true, cond_true, decide_eq_true (by omega), cond_true]
    congr 2
    rw [Int.sub_zero, Int.toNat_natCast, List.drop_zero, List.append_assoc, List.take_append_of_le_length (by simp; omega), List.take_take, Nat.min_self, ht, List.take_of_length_le (by omega)]
  | succ m ih =>
    intro j i o hj hij ho ht hd
    have hlt : j < o.length := by omega
    have hlt2 : j < l.length := by omega
    have hget : o[j] = l[j] := by
      have h1 := List.drop_eq_getElem_cons hlt
      have h2 := List.drop_eq_getElem_cons hlt2
      rw [hd, h2] at h1
      exact (List.cons.inj h1).1.symm
    have hd2 : o.drop (j + 1) = l.drop (j + 1) := by
      rw [← List.drop_drop, hd, List.drop_drop]
    have htk : l.take (j + 1) = l.take j ++ [l[j]] := List.take_succ_eq_append_getElem hlt2
    rw [slices_DeleteFunc.j0_eq, lt_true hlt, cond_true, Bool.and_true, decide_eq_true (Int.natCast_nonneg j), cond_true, Int.toNat_natCast, List.getElem?_eq_getElem hlt, Option.bind_some, link_Receive_1.f_eq, Option.bind_some, hget, wr_succ hlt (by omega)]
    show (bif !decide (sq l[j] ≤ ak p) then _ else _) = _
    cases hk : decide (sq l[j] ≤ ak p) with
    | true =>
      rw [Bool.not_true, cond_false]
      refine ih (j + 1) i o (by omega) (by omega) ho ?_ hd2
      rw [htk, List.filter_append, ht, List.filter_cons]
      unfold later
      rw [hk]
      simp
    | false =>
      have hi : i < o.length := by omega
      rw [Bool.not_false, cond_true, decide_eq_true (Int.natCast_nonneg i), decide_eq_true (show (i : Int) < (o.length : Int) by omega), Bool.and_self, cond_true, Int.toNat_natCast, List.getElem?_eq_getElem hi, Option.bind_some, wr_succ hi (by omega)]
      refine ih (j + 1) (i + 1) (o.set i l[j]) (by omega) (by omega) (by simpa using ho) ?_ ?_
      · rw [List.take_succ_eq_append_getElem (by simpa using hi), List.getElem_set_self, List.take_set_of_le (by omega), ht, htk, List.filter_append, List.filter_cons]
        unfold later
        rw [hk]
        simp
      · rw [List.drop_set_of_lt (by omega), hd2]
theorem delete_eq (l : PL) (p : PacketT) (hl : l.length ≤ 1000000) : slices_DeleteFunc.f l p = some (l.filter (later (ak p)), p.1, p.2.1, p.2.2.1, p.2.2.2.1, p.2.2.2.2.1, p.2.2.2.2.2.1, p.2.2.2.2.2.2.1, p.2.2.2.2.2.2.2.1.1, p.2.2.2.2.2.2.2.1.2.1, p.2.2.2.2.2.2.2.1.2.2.1, p.2.2.2.2.2.2.2.1.2.2.2, p.2.2.2.2.2.2.2.2) := by
  have hidx : slices_IndexFunc.f l p = some (pos1 (l.findIdx? fun x => decide (sq x ≤ ak p))) := by
    rw [slices_IndexFunc.f_eq, find_loop l (fun i => slices_IndexFunc.j0 l p l.length i) (fun x => decide (sq x ≤ ak p)) (fun k => (k : Int)) (some (-1)) (fun k hk => ?hF) ?hE]
    · exact found_pos _
    case hF =>
      rw [slices_IndexFunc.j0_eq, lt_true hk, cond_true, idx_nat, List.getElem?_eq_getElem hk, Option.bind_some, link_Receive_1.f_eq, Option.bind_some, wr_succ hk (by omega)]
      rfl
    case hE =>
      rw [slices_IndexFunc.j0_eq, lt_false (Nat.le_refl _), cond_false]
  rw [slices_DeleteFunc.f_eq, hidx, Option.bind_some]
  cases hi : l.findIdx? fun x => decide (sq x ≤ ak p) with
  | none =>
    have : l.filter (later (ak p)) = l := by
      refine List.filter_eq_self.2 fun x hx => ?_
      have := List.findIdx?_eq_none_iff.1 hi x hx
      unfold later
      rw [this]
      rfl
    rw [this]
    rfl
  | some k =>
    obtain ⟨hk, h1, h2⟩ := List.findIdx?_eq_some_iff_getElem.1 hi
    rw [beq_eq_false_iff_ne.2 (show pos1 (some k) ≠ -1 by show (k : Int) ≠ -1; omega), cond_false, show pos1 (some k) = (k : Int) from rfl, wr_succ hk (by omega)]
    have hf : (l.take k).filter (later (ak p)) = l.take k := by
      refine List.filter_eq_self.2 fun x hx => ?_
      obtain ⟨j, hj, rfl⟩ := List.mem_take_iff_getElem.1 hx
      have := h2 j (by omega)
      unfold later
      simpa using this
    refine del_j0 p l hl (l.length - (k + 1)) (k + 1) k l (by omega) (by omega) rfl ?_ rfl
    rw [List.take_succ_eq_append_getElem hk, List.filter_append, hf, List.filter_cons]
    unfold later
    rw [h1]
    simp
end Go.Proofs.Ytpiejdjanhnbeaa

/- Receive: what arrives is laid among what is held; what is next is handed on. -/
set_option linter.unusedVariables false
set_option linter.unusedSimpArgs false
set_option maxHeartbeats 4000000
namespace Go.Proofs.Ytpiejdjanhnbeaa
open Go Go.Sk

/-! ### ascending packets -/
abbrev Asc (l : PL) : Prop := l.Pairwise fun x y => sq x < sq y
def kd (x : PacketT) : Int × PacketT := (sq x, x)
def runS (got : Int) : PL → PL × PL
  | [] => ([], [])
  | x :: r => bif sq x == got + 1 then (x :: (runS (got + 1) r).1, (runS (got + 1) r).2) else ([], x :: r)
def insS (p : PacketT) : PL → PL
  | [] => [p]
  | x :: r => bif decide (sq x < sq p) then x :: insS p r else p :: x :: r
theorem insS_perm (p : PacketT) : ∀ l : PL, (insS p l).Perm (p :: l)
  | [] => .refl _
  | x :: r => by
    unfold insS
    cases decide (sq x < sq p) with
    | true => exact ((insS_perm p r).cons x).trans (.swap p x r)
    | false => exact .refl _
theorem insS_asc (p : PacketT) : ∀ l : PL, Asc l → (∀ x ∈ l, sq x ≠ sq p) → Asc (insS p l)
  | [], _, _ => by simp [insS]
  | x :: r, h, hn => by
    obtain ⟨h1, h2⟩ := List.pairwise_cons.1 h
    unfold insS
    by_cases hx : sq x < sq p
    · rw [decide_eq_true hx]
      refine List.pairwise_cons.2 ⟨fun y hy => ?_, insS_asc p r h2 fun y hy => hn y (List.mem_cons_of_mem _ hy)⟩
      rcases List.mem_cons.1 ((insS_perm p r).mem_iff.1 hy) with rfl | hy
      · exact hx
      · exact h1 y hy
    · rw [decide_eq_false hx]
      have := hn x (List.mem_cons_self ..)
      refine List.pairwise_cons.2 ⟨fun y hy => ?_, h⟩
      rcases List.mem_cons.1 hy with rfl | hy
      · omega
      · have := h1 y hy; omega
theorem Asc.nodup {l : PL} (h : Asc l) : (l.map sq).Nodup := List.pairwise_map.2 (h.imp fun h => Int.ne_of_lt h)
structure HeldOK (peer got last : Int) (l : PL) : Prop where
  asc : Asc l
  rng : ∀ x ∈ l, x.1 = peer ∧ last < sq x ∧ sq x ≤ got + 16 ∧ sq x ≤ 1099511627776
theorem heldS_iff (peer got : Int) : ∀ (l : PL) (last : Int), heldS peer got last l = true ↔ HeldOK peer got last l
  | [], last => ⟨fun _ => ⟨.nil, fun x hx => by simp at hx⟩, fun _ => rfl⟩
  | p :: r, last => by
    simp only [heldS, Bool.and_eq_true, beq_iff_eq, decide_eq_true_eq, heldS_iff peer got r]
    constructor
    · rintro ⟨h1, h2, h3, h4, h5, h6⟩
      refine ⟨List.pairwise_cons.2 ⟨fun x hx => (h6 x hx).2.1, h5⟩, fun x hx => ?_⟩
      rcases List.mem_cons.1 hx with rfl | hx
      · exact ⟨h1, h2, h3, h4⟩
      · obtain ⟨a, b, c, d⟩ := h6 x hx
        exact ⟨a, by omega, c, d⟩
    · rintro ⟨h5, h6⟩
      obtain ⟨h7, h8⟩ := List.pairwise_cons.1 h5
      obtain ⟨a, b, c, d⟩ := h6 p (List.mem_cons_self ..)
      exact ⟨a, b, c, d, h8, fun x hx => ⟨(h6 x (List.mem_cons_of_mem _ hx)).1, h7 x hx, (h6 x (List.mem_cons_of_mem _ hx)).2.2⟩⟩
/-! ### maps by numbers -/
theorem find_kd (k : Int) : ∀ E : PL, mapFind (.int .i64) cPacket (E.map kd) k = E.find? fun x => k == sq x
  | [] => rfl
  | x :: r => by
    rw [List.map_cons]
    unfold mapFind
    rw [List.find?_cons]
    show (bif k == sq x then some x else _) = _
    cases k == sq x with
    | true => rfl
    | false => exact find_kd k r
theorem set_kd (p : PacketT) : ∀ E : PL, (∀ x ∈ E, sq x ≠ sq p) → mapSet (.int .i64) cPacket (E.map kd) (sq p) p = (E ++ [p]).map kd
  | [], _ => rfl
  | x :: r, h => by
    rw [List.map_cons]
    unfold mapSet
    show (bif sq p == sq x then _ else _) = _
    rw [beq_eq_false_iff_ne.2 (Ne.symm (h x (List.mem_cons_self ..))), cond_false, set_kd p r fun y hy => h y (List.mem_cons_of_mem _ hy)]
    rfl
theorem del_kd (k : Int) : ∀ E : PL, mapDel (.int .i64) cPacket (E.map kd) k = (E.eraseP fun x => k == sq x).map kd
  | [] => rfl
  | x :: r => by
    rw [List.map_cons]
    unfold mapDel
    rw [List.eraseP_cons]
    show (bif k == sq x then _ else _) = _
    cases k == sq x with
    | true => rfl
    | false => rw [cond_false, del_kd k r]; rfl
theorem find_some {E : PL} {x : PacketT} (hn : (E.map sq).Nodup) (hx : x ∈ E) : E.find? (fun y => sq x == sq y) = some x := by
  induction E with
  | nil => simp at hx
  | cons y r ih =>
    rw [List.map_cons, List.nodup_cons] at hn
    rw [List.find?_cons]
    rcases List.mem_cons.1 hx with rfl | hx
    · rw [beq_self_eq_true]
    · rw [beq_eq_false_iff_ne.2 (fun e : sq x = sq y => hn.1 (by rw [← e]; exact List.mem_map.2 ⟨x, hx, rfl⟩))]
      exact ih hn.2 hx
theorem find_none {E : PL} {k : Int} (h : ∀ x ∈ E, sq x ≠ k) : E.find? (fun y => k == sq y) = none := by
  rw [List.find?_eq_none]
  intro x hx
  have := h x hx
  simp
  omega
theorem erase_perm {E : PL} {x : PacketT} (hn : (E.map sq).Nodup) (hx : x ∈ E) : E.Perm (x :: E.eraseP fun y => sq x == sq y) := by
  induction E with
  | nil => simp at hx
  | cons y r ih =>
    rw [List.map_cons, List.nodup_cons] at hn
    rw [List.eraseP_cons]
    rcases List.mem_cons.1 hx with rfl | hx
    · rw [beq_self_eq_true]; exact .refl _
    · rw [beq_eq_false_iff_ne.2 (fun e : sq x = sq y => hn.1 (by rw [← e]; exact List.mem_map.2 ⟨x, hx, rfl⟩))]
      exact ((ih hn.2 hx).cons y).trans (.swap x y _)
/-! ### the keys, sorted -/
structure Laid (E L : PL) : Prop where
  perm : E.Perm L
  asc : Asc L
  rng : ∀ x ∈ L, 0 ≤ sq x ∧ sq x ≤ 1099511627776
  len : L.length ≤ 1000001
theorem Laid.nodup {E L : PL} (h : Laid E L) : (E.map sq).Nodup := ((h.perm.map sq).nodup_iff).2 h.asc.nodup
theorem keys_kd (E : PL) : (E.map kd).map (·.1) = E.map sq := by rw [List.map_map]; rfl
theorem prim_sorted {E L : PL} (h : Laid E L) (tidy : Bool) : intKeysPrim 51 [(.one (.fn 51 [(.ptr 1 0)]))] [(.ghost [(.osl 2)]), (.cells [(.osl 2)]), (.map (.int .i64) cPacket true (E.map kd) tidy)] ⟨[.one (.ty (.slice (.int .i64))), .one (.map (.int .i64) cPacket true tidy)], 1⟩ = some (L.map sq, E.map kd) := by
  have hd : decM (.int .i64) cPacket (.int .i64) cPacket (E.map kd) = some (E.map kd) := decM_self _ _ _
  have hl : E.length = L.length := h.perm.length_eq
  have hlen := h.len
  unfold intKeysPrim
  simp only [hd]
  have h1 : nodupI ((E.map kd).map (·.1)) = true := by rw [keys_kd]; exact (nodupI_iff _).2 h.nodup
  have h2 : intsOk ((E.map kd).map (·.1)) = true := by
    rw [keys_kd]
    refine List.all_eq_true.2 fun n hn => ?_
    obtain ⟨x, hx, rfl⟩ := List.mem_map.1 hn
    have := h.rng x (h.perm.mem_iff.1 hx)
    simp only [Bool.and_eq_true, decide_eq_true_eq]
    omega
  have h3 : sortInts ((E.map kd).map (·.1)) = L.map sq := by
    rw [keys_kd]
    exact sortInts_eq (h.perm.map sq).symm (List.pairwise_map.2 (h.asc.imp fun h => Int.le_of_lt h))
  have h4 : decide ((E.map kd).length * 8 ≤ 140737488355328) = true := decide_eq_true (by rw [List.length_map]; omega)
  simp only [beq_self_eq_true, Bool.true_and]
  rw [h1, h2, h3, h4]
  rfl
theorem sorted_eq {E L : PL} (h : Laid E L) : slices_Sorted.f (E.map kd) = some (L.map sq, E.map kd) := by
  unfold slices_Sorted.f callX orPrim
  rw [show cfg.prim 31 = intKeysPrim 51 from rfl, prim_sorted h true]
  rfl
theorem sorted1_eq {E L : PL} (h : Laid E L) : slices_Sorted_1.f (E.map kd) = some (L.map sq, E.map kd) := by
  unfold slices_Sorted_1.f callX orPrim
  rw [show cfg.prim 31 = intKeysPrim 51 from rfl, prim_sorted h false]
  rfl
/-! ### what stays, by number -/
section
variable (pe nx : Int) (s : PL) (z1 z2 z3 : Int) (y1 y2 : PL)
theorem j4_eq' {E L : PL} (h : Laid E L) (got : Int) (out : PL) : ∀ (m k : Nat), k + m = L.length → link_Receive.j4 (L.map sq) ((L.map sq).length : Nat) k pe nx got s (L.take k) z1 z2 z3 y1 y2 (E.map kd) out = some ((pe, nx, got, s, L), out) := by
  have hlen := h.len
  intro m
  induction m with
  | zero =>
    intro k hk
    rw [link_Receive.j4_eq, decide_eq_false (by rw [List.length_map]; omega), cond_false, List.take_of_length_le (by omega)]
  | succ m ih =>
    intro k hk
    have hlt : k < L.length := by omega
    have hlt' : k < (L.map sq).length := by rw [List.length_map]; exact hlt
    have hf : mapFind (.int .i64) cPacket (E.map kd) (sq L[k]) = some L[k] := by rw [find_kd]; exact find_some h.nodup (h.perm.mem_iff.2 (List.getElem_mem hlt))
    rw [link_Receive.j4_eq, lt_true hlt', cond_true, idx_nat, List.getElem?_eq_getElem hlt', Option.bind_some, List.getElem_map, hf, Option.getD_some, cond_dec, if_pos (by simp; omega), wr_succ hlt' (by rw [List.length_map]; omega),
      ← List.take_succ_eq_append_getElem hlt]
    exact ih (k + 1) (by omega)
theorem j3_eq' {E L : PL} (h : Laid E L) (got : Int) (out : PL) : ∀ (m k : Nat), k + m = L.length → link_Receive.j3 (L.map sq) ((L.map sq).length : Nat) k pe nx got s (L.take k) z1 z2 z3 y1 y2 (E.map kd) out = some ((pe, nx, got, s, L), out) := by
  have hlen := h.len
  intro m
  induction m with
  | zero =>
    intro k hk
    rw [link_Receive.j3_eq, decide_eq_false (by rw [List.length_map]; omega), cond_false, List.take_of_length_le (by omega)]
  | succ m ih =>
    intro k hk
    have hlt : k < L.length := by omega
    have hlt' : k < (L.map sq).length := by rw [List.length_map]; exact hlt
    have hf : mapFind (.int .i64) cPacket (E.map kd) (sq L[k]) = some L[k] := by rw [find_kd]; exact find_some h.nodup (h.perm.mem_iff.2 (List.getElem_mem hlt))
    rw [link_Receive.j3_eq, lt_true hlt', cond_true, idx_nat, List.getElem?_eq_getElem hlt', Option.bind_some, List.getElem_map, hf, Option.getD_some, cond_dec, if_pos (by simp; omega), wr_succ hlt' (by rw [List.length_map]; omega),
      ← List.take_succ_eq_append_getElem hlt]
    exact ih (k + 1) (by omega)
/-! ### what is next, one by one -/
theorem first_some {E L : PL} {y : PacketT} (h : Laid E (y :: L)) {k : Int} (hk : sq y = k) : mapFind (.int .i64) cPacket (E.map kd) k = some y := by
  subst hk
  rw [find_kd]
  exact find_some h.nodup (h.perm.mem_iff.2 (List.mem_cons_self ..))
theorem first_none {E L : PL} (h : Laid E L) {k : Int} (hk : ∀ x ∈ L, sq x ≠ k) : mapFind (.int .i64) cPacket (E.map kd) k = none := by
  rw [find_kd]
  exact find_none fun x hx => hk x (h.perm.mem_iff.1 hx)
theorem Laid.next {E L : PL} {y : PacketT} (h : Laid E (y :: L)) : ∃ E', mapDel (.int .i64) cPacket (E.map kd) (sq y) = E'.map kd ∧ Laid E' L := by
  refine ⟨_, del_kd _ _, ?_⟩
  have hp := erase_perm h.nodup (h.perm.mem_iff.2 (List.mem_cons_self ..))
  have hlen := h.len
  rw [List.length_cons] at hlen
  exact ⟨(hp.symm.trans h.perm).cons_inv, (List.pairwise_cons.1 h.asc).2, fun x hx => h.rng x (List.mem_cons_of_mem _ hx), by omega⟩
theorem runS_no {got : Int} {L : PL} (h : ∀ y ∈ L.head?, sq y ≠ got + 1) : runS got L = ([], L) := by
  cases L with
  | nil => rfl
  | cons y r =>
    unfold runS
    rw [beq_eq_false_iff_ne.2 (h y rfl)]
    rfl
theorem ahead {got : Int} {y : PacketT} {r : PL} (h : Asc (y :: r)) (h1 : got < sq y) (h2 : sq y ≠ got + 1) : ∀ x ∈ y :: r, sq x ≠ got + 1 := by
  intro x hx
  rcases List.mem_cons.1 hx with rfl | hx
  · exact h2
  · have := (List.pairwise_cons.1 h).1 x hx
    omega
theorem j2_eq' (hd : PL) : ∀ (L E : PL) (got : Int) (out : PL), Laid E L → (∀ x ∈ L, got < sq x) → -1 ≤ got → got + L.length ≤ 2199023255552 → out.length + L.length ≤ 2000000 →
    link_Receive.j2 (Option.isSome (mapFind (.int .i64) cPacket (E.map kd) (got + 1))) pe nx got hd s z1 z2 z3 y1 y2 (E.map kd) out (Option.getD (mapFind (.int .i64) cPacket (E.map kd) (got + 1)) zeroP) = some ((pe, nx, got + (runS got L).1.length, s, (runS got L).2), out ++ (runS got L).1)
  | L, E, got, out, h, hg, h0, h1, h2 => by
    have stop : (∀ x ∈ L, sq x ≠ got + 1) → link_Receive.j2 (Option.isSome (mapFind (.int .i64) cPacket (E.map kd) (got + 1))) pe nx got hd s z1 z2 z3 y1 y2 (E.map kd) out (Option.getD (mapFind (.int .i64) cPacket (E.map kd) (got + 1)) zeroP) = some ((pe, nx, got + (runS got L).1.length, s, (runS got L).2), out ++ (runS got L).1) := fun hn => by
      rw [first_none h hn, runS_no (fun y hy => hn y (List.mem_of_head? hy)), link_Receive.j2_eq, Option.isSome_none, cond_false, sorted1_eq h, Option.bind_some]
      have := j4_eq' pe nx s z1 z2 z3 y1 y2 h got out L.length 0 (by omega)
      rw [List.take_zero] at this
      rw [show ((pe, nx, got + (([] : PL).length : Int), s, L), out ++ ([] : PL)) = ((pe, nx, got, s, L), out) by simp]
      exact this
    match L, h, hg, h1, h2, stop with
    | [], h, hg, h1, h2, stop => exact stop fun x hx => by simp at hx
    | y :: r, h, hg, h1, h2, stop =>
      by_cases hy : sq y = got + 1
      · obtain ⟨E', he, hL⟩ := h.next
        rw [List.length_cons] at h1 h2
        have hr := (List.pairwise_cons.1 h.asc).1
        have ih := j2_eq' hd r E' (got + 1) (out ++ [y]) hL (fun x hx => by have := hr x hx; omega) (by omega) (by omega) (by simp; omega)
        rw [first_some h hy, Option.isSome_some, Option.getD_some, link_Receive.j2_eq, cond_true, cond_dec, if_pos (by simp; omega), show y.2.2.2.1 = sq y from rfl, he, wr_in (x := got + 1) (by omega) (by omega), wr_in (x := got + 1 + 1) (by omega) (by omega)]
        refine ih.trans ?_
        have e : runS got (y :: r) = (y :: (runS (got + 1) r).1, (runS (got + 1) r).2) := by
          show (bif sq y == got + 1 then _ else _) = _
          rw [beq_iff_eq.2 hy]; rfl
        rw [e]
        congr 2
        · congr 2
          congr 1
          simp only [List.length_cons]
          omega
        · simp
      · exact stop (ahead h.asc (hg y (List.mem_cons_self ..)) hy)
theorem j1_eq' (hd L E : PL) (got : Int) (h : Laid E L) (hg : ∀ x ∈ L, got < sq x) (h0 : -1 ≤ got) (h1 : got + L.length ≤ 2199023255552) :
    link_Receive.j1 (Option.isSome (mapFind (.int .i64) cPacket (E.map kd) (got + 1))) pe nx got hd s z1 z2 z3 y1 y2 (E.map kd) [] (Option.getD (mapFind (.int .i64) cPacket (E.map kd) (got + 1)) zeroP) = some ((pe, nx, got + (runS got L).1.length, s, (runS got L).2), (runS got L).1) := by
  have hlen := h.len
  have stop : (∀ x ∈ L, sq x ≠ got + 1) → link_Receive.j1 (Option.isSome (mapFind (.int .i64) cPacket (E.map kd) (got + 1))) pe nx got hd s z1 z2 z3 y1 y2 (E.map kd) [] (Option.getD (mapFind (.int .i64) cPacket (E.map kd) (got + 1)) zeroP) = some ((pe, nx, got + (runS got L).1.length, s, (runS got L).2), (runS got L).1) := fun hn => by
    rw [first_none h hn, runS_no (fun y hy => hn y (List.mem_of_head? hy)), link_Receive.j1_eq, Option.isSome_none, cond_false, sorted_eq h, Option.bind_some]
    have := j3_eq' pe nx s z1 z2 z3 y1 y2 h got [] L.length 0 (by omega)
    rw [List.take_zero] at this
    rw [show ((pe, nx, got + (([] : PL).length : Int), s, L), ([] : PL)) = ((pe, nx, got, s, L), []) by simp]
    exact this
  match L, h, hg, h1, stop, hlen with
  | [], h, hg, h1, stop, _ => exact stop fun x hx => by simp at hx
  | y :: r, h, hg, h1, stop, hlen =>
    by_cases hy : sq y = got + 1
    · obtain ⟨E', he, hL⟩ := h.next
      rw [List.length_cons] at h1 hlen
      have hr := (List.pairwise_cons.1 h.asc).1
      have ih := j2_eq' pe nx s z1 z2 z3 y1 y2 hd r E' (got + 1) [y] hL (fun x hx => by have := hr x hx; omega) (by omega) (by omega) (by simp; omega)
      rw [first_some h hy, Option.isSome_some, Option.getD_some, link_Receive.j1_eq, cond_true, cond_dec, if_pos (by simp), show y.2.2.2.1 = sq y from rfl, he, wr_in (x := got + 1) (by omega) (by omega), wr_in (x := got + 1 + 1) (by omega) (by omega), List.nil_append]
      refine ih.trans ?_
      have e : runS got (y :: r) = (y :: (runS (got + 1) r).1, (runS (got + 1) r).2) := by
        show (bif sq y == got + 1 then _ else _) = _
        rw [beq_iff_eq.2 hy]; rfl
      rw [e]
      congr 2
      congr 2
      congr 1
      simp only [List.length_cons]
      omega
    · exact stop (ahead h.asc (hg y (List.mem_cons_self ..)) hy)
end
end Go.Proofs.Ytpiejdjanhnbeaa

/- Receive on both sides; a valid connection stays valid. -/
set_option linter.unusedVariables false
set_option linter.unusedSimpArgs false
set_option maxHeartbeats 4000000
namespace Go.Proofs.Ytpiejdjanhnbeaa
open Go Go.Sk

def lateS (c : ConnT) (p : PacketT) : Bool := decide (sq p ≤ c.2.2.1) || (decide (sq p > c.2.2.1 + 16) || (decide (sq p > 1099511627776) || c.2.2.2.2.any fun x => sq x == sq p))
def keepS (c : ConnT) (p : PacketT) : PL := c.2.2.2.1.filter (later (ak p))
def recvS (c : ConnT) (p : PacketT) : ConnT × PL :=
  bif !validS c then (c, []) else bif p.1 != c.1 then (c, []) else
  bif lateS c p then ((c.1, c.2.1, c.2.2.1, keepS c p, c.2.2.2.2), []) else
    ((c.1, c.2.1, c.2.2.1 + (runS c.2.2.1 (insS p c.2.2.2.2)).1.length, keepS c p, (runS c.2.2.1 (insS p c.2.2.2.2)).2), (runS c.2.2.1 (insS p c.2.2.2.2)).1)
theorem Vld.heldOK {c : ConnT} (h : Vld c) : HeldOK c.1 c.2.2.1 (c.2.2.1 + 1) c.2.2.2.2 := (heldS_iff _ _ _ _).1 h.held
theorem any_ne {l : PL} {k : Int} (h : (l.any fun x => sq x == k) = false) : ∀ x ∈ l, sq x ≠ k := fun x hx => by
  have := List.any_eq_false.1 h x hx
  simpa using this
structure InTime (c : ConnT) (p : PacketT) : Prop where
  lo : c.2.2.1 < sq p
  hi : sq p ≤ c.2.2.1 + 16
  mx : sq p ≤ 1099511627776
  nw : ∀ x ∈ c.2.2.2.2, sq x ≠ sq p
theorem inTime {c : ConnT} {p : PacketT} (h : lateS c p = false) : InTime c p := by
  unfold lateS at h
  simp only [Bool.or_eq_false_iff, decide_eq_false_iff_not] at h
  obtain ⟨h1, h2, h3, h4⟩ := h
  exact ⟨by omega, by omega, by omega, any_ne h4⟩
theorem InTime.laid {c : ConnT} {p : PacketT} (h : InTime c p) (hv : Vld c) (hl : c.2.2.2.2.length ≤ 1000000) {E : PL} (hE : E.Perm (p :: c.2.2.2.2)) : Laid E (insS p c.2.2.2.2) ∧ (∀ x ∈ insS p c.2.2.2.2, c.2.2.1 < sq x) ∧ (insS p c.2.2.2.2).length = c.2.2.2.2.length + 1 := by
  have hh := hv.heldOK
  have hg := hv.g1
  have hlo := h.lo
  have hlen : (insS p c.2.2.2.2).length = c.2.2.2.2.length + 1 := (insS_perm _ _).length_eq
  have hmem : ∀ x ∈ insS p c.2.2.2.2, c.2.2.1 < sq x ∧ sq x ≤ 1099511627776 := fun x hx => by
    rcases List.mem_cons.1 ((insS_perm _ _).mem_iff.1 hx) with rfl | hx
    · exact ⟨h.lo, h.mx⟩
    · have := hh.rng x hx
      exact ⟨by omega, by omega⟩
  exact ⟨⟨hE.trans (insS_perm _ _).symm, insS_asc _ _ hh.asc h.nw, fun x hx => ⟨by have := (hmem x hx).1; omega, (hmem x hx).2⟩, by omega⟩, fun x hx => (hmem x hx).1, hlen⟩

theorem wRecv_j0 (c : ConnT) (p : PacketT) (hv : Vld c) (hl : c.2.2.2.2.length ≤ 1000000) (s : PL) (z1 z2 z3 : Int) (y1 y2 : PL) (hlo : c.2.2.1 < sq p) (hhi : sq p ≤ c.2.2.1 + 16) (hmx : sq p ≤ 1099511627776) :
    ∀ (m k : Nat), k + m = c.2.2.2.2.length → link_Receive.j0 c.2.2.2.2 c.2.2.2.2.length k c.1 c.2.1 c.2.2.1 c.2.2.2.2 s p z1 z2 z3 y1 y2 ((c.2.2.2.2.take k).map kd) =
      some (bif c.2.2.2.2.any (fun x => sq x == sq p) then ((c.1, c.2.1, c.2.2.1, s, c.2.2.2.2), []) else
        ((c.1, c.2.1, c.2.2.1 + (runS c.2.2.1 (insS p c.2.2.2.2)).1.length, s, (runS c.2.2.1 (insS p c.2.2.2.2)).2), (runS c.2.2.1 (insS p c.2.2.2.2)).1)) := by
  intro m
  have hh := hv.heldOK
  have hg1 := hv.g1
  have hg2 := hv.g2
  induction m with
  | zero =>
    intro k hk
    rw [link_Receive.j0_eq, decide_eq_false (by omega), cond_false, List.take_of_length_le (by omega), show p.2.2.2.1 = sq p from rfl, find_kd]
    cases ha : c.2.2.2.2.any (fun x => sq x == sq p) with
    | true =>
      have : (c.2.2.2.2.find? fun x => sq p == sq x).isSome = true := by
        rw [List.find?_isSome]
        obtain ⟨x, hx, he⟩ := List.any_eq_true.1 ha
        exact ⟨x, hx, by rw [beq_iff_eq] at he ⊢; exact he.symm⟩
      rw [this]
      rfl
    | false =>
      have hne := any_ne ha
      have hin : InTime c p := ⟨hlo, hhi, hmx, hne⟩
      rw [find_none hne, Option.isSome_none, cond_false, cond_false, set_kd p _ hne, wr_in (x := c.2.2.1 + 1) (by omega) (by omega)]
      obtain ⟨hL, hgt, hln⟩ := hin.laid hv hl (E := c.2.2.2.2 ++ [p]) (List.perm_append_singleton p _)
      exact j1_eq' c.1 c.2.1 s z1 z2 z3 y1 y2 c.2.2.2.2 _ _ _ hL hgt (by omega) (by omega)
  | succ m ih =>
    intro k hk
    have hlt : k < c.2.2.2.2.length := by omega
    rw [link_Receive.j0_eq, lt_true hlt, cond_true, idx_nat, List.getElem?_eq_getElem hlt, Option.bind_some, wr_succ hlt (by omega), show c.2.2.2.2[k].2.2.2.1 = sq c.2.2.2.2[k] from rfl, set_kd _ _ (fun x hx => ?_), ← List.take_succ_eq_append_getElem hlt]
    · exact ih (k + 1) (by omega)
    · have h1 := hh.asc
      rw [← List.take_append_drop k c.2.2.2.2] at h1
      have := (List.pairwise_append.1 h1).2.2 x hx c.2.2.2.2[k] (by rw [List.drop_eq_getElem_cons hlt]; exact List.mem_cons_self ..)
      omega
theorem wRecv (c : ConnT) (p : PacketT) (h : ConnL c) (hg : I64 c.2.2.1) : link_Receive.f c p = some (recvS c p) := by
  rw [link_Receive.f_eq, wValid c h hg, Option.bind_some]
  unfold recvS
  cases hv : validS c with
  | false => rfl
  | true =>
    have hV := (valid_iff c).1 hv
    have hg1 := hV.g1
    have hg2 := hV.g2
    rw [Bool.not_true, cond_false, cond_false]
    cases p.1 != c.1 with
    | true => rfl
    | false =>
      rw [cond_false, cond_false, clone_p _ h.1.1, Option.bind_some, delete_eq _ _ h.1.1, Option.bind_some]
      show (bif decide (sq p ≤ c.2.2.1) then some ((c.1, c.2.1, c.2.2.1, keepS c p, c.2.2.2.2), []) else bif decide (sq p > IntKind.i64.wrap (c.2.2.1 + 16)) then some ((c.1, c.2.1, c.2.2.1, keepS c p, c.2.2.2.2), []) else bif decide (sq p > 1099511627776) then some ((c.1, c.2.1, c.2.2.1, keepS c p, c.2.2.2.2), []) else
        link_Receive.j0 c.2.2.2.2 (c.2.2.2.2.length : Nat) 0 c.1 c.2.1 c.2.2.1 c.2.2.2.2 (keepS c p) p 0 0 0 [] [] []) = _
      rw [wr_in (by omega) (by omega)]
      unfold lateS
      cases e1 : decide (sq p ≤ c.2.2.1) with
      | true => rfl
      | false =>
      cases e2 : decide (sq p > c.2.2.1 + 16) with
      | true => rfl
      | false =>
      cases e3 : decide (sq p > 1099511627776) with
      | true => rfl
      | false =>
        have d1 := of_decide_eq_false e1
        have d2 := of_decide_eq_false e2
        have d3 := of_decide_eq_false e3
        have := wRecv_j0 c p hV h.2.1 (keepS c p) 0 0 0 [] [] (by omega) (by omega) (by omega) c.2.2.2.2.length 0 (by omega)
        rw [List.take_zero] at this
        exact this
/-! ### the answer -/
theorem rFind (l : PL) (k : Int) (hl : l.length ≤ 1000000) : ref47_find.f l k = some (pos1 (l.findIdx? fun x => sq x == k)) := by
  rw [ref47_find.f_eq, find_loop l (fun i => ref47_find.j0 l k i) (fun x => sq x == k) (fun k => (k : Int)) (some (-1)) (fun k hk => ?hF) ?hE]
  · exact found_pos _
  case hF =>
    rw [ref47_find.j0_eq, lt_true hk, cond_true, idx_nat, List.getElem?_eq_getElem hk, Option.bind_some, wr_succ hk (by omega)]
    rfl
  case hE =>
    rw [ref47_find.j0_eq, lt_false (Nat.le_refl _), cond_false]
theorem insS_split (p : PacketT) : ∀ (l : PL) (k : Nat), k ≤ l.length → (∀ (j : Nat) (h : j < l.length), j < k → sq l[j] < sq p) → (∀ h : k < l.length, ¬ sq l[k] < sq p) → insS p l = l.take k ++ [p] ++ l.drop k
  | [], k, hk, _, _ => by simp at hk; subst hk; rfl
  | x :: r, 0, _, _, h2 => by
    unfold insS
    rw [decide_eq_false (show ¬ sq x < sq p from h2 (by simp))]
    rfl
  | x :: r, k + 1, hk, h1, h2 => by
    unfold insS
    have := h1 0 (by simp) (by omega)
    rw [decide_eq_true (show sq x < sq p from this), cond_true, insS_split p r k (by simpa using hk) (fun j h hj => h1 (j + 1) (by simpa using h) (by omega)) (fun h => h2 (by simpa using h))]
    rfl
theorem rInsert (l : PL) (p : PacketT) (hl : l.length ≤ 1000000) : ref47_insert.f l p = some (insS p l) := by
  have fin : ∀ k : Nat, k ≤ l.length → (bif decide (0 ≤ 0) && decide (0 ≤ (k : Int)) && decide ((k : Int) ≤ (l.length : Int)) then (bif decide ((([] : PL).length + (l.take (Int.toNat (k : Int))).length) * 120 ≤ 140737488355328) then some () else none) else none) = some () := fun k hk => by
    rw [decide_eq_true (Nat.le_refl 0), decide_eq_true (Int.natCast_nonneg k), decide_eq_true (by omega), decide_eq_true (by simp; omega)]
    rfl
  have key : ∀ (m k : Nat), k + m = l.length → (∀ (j : Nat) (h : j < l.length), j < k → sq l[j] < sq p) → ref47_insert.j0 l k p [] = some (insS p l) := by
    intro m
    induction m with
    | zero =>
      intro k hk h1
      rw [ref47_insert.j0_eq, decide_eq_false (by omega), cond_false, decide_eq_true (Nat.le_refl 0), decide_eq_true (Int.natCast_nonneg k), decide_eq_true (show (k : Int) ≤ (l.length : Int) by omega), decide_eq_true (Int.le_refl _)]
      simp only [Bool.and_self, cond_true, Int.toNat_natCast, List.nil_append, List.drop_zero]
      rw [List.take_of_length_le (by omega), List.take_of_length_le (Nat.le_refl _), decide_eq_true (by simp; omega), decide_eq_true (by simp; omega), decide_eq_true (by simp; omega), cond_true, cond_true, cond_true, insS_split p l k (by omega) h1 (fun h => by omega), List.take_of_length_le (by omega)]
    | succ m ih =>
      intro k hk h1
      have hlt : k < l.length := by omega
      rw [ref47_insert.j0_eq, lt_true hlt, cond_true, idx_nat, List.getElem?_eq_getElem hlt, Option.bind_some, wr_succ hlt (by omega)]
      show (bif decide (sq l[k] < sq p) then _ else _) = _
      cases hd : decide (sq l[k] < sq p) with
      | true =>
        refine ih (k + 1) (by omega) fun j h hj => ?_
        rcases Nat.lt_or_ge j k with h2 | h2
        · exact h1 j h h2
        · have : j = k := by omega
          subst this
          exact of_decide_eq_true hd
      | false =>
        rw [cond_false, decide_eq_true (Nat.le_refl 0), decide_eq_true (Int.natCast_nonneg k), decide_eq_true (show (k : Int) ≤ (l.length : Int) by omega), decide_eq_true (Int.le_refl _)]
        simp only [Bool.and_self, cond_true, Int.toNat_natCast, List.nil_append, List.drop_zero]
        rw [List.take_of_length_le (Nat.le_refl _), decide_eq_true (by simp; omega), decide_eq_true (by simp; omega), decide_eq_true (by simp; omega), cond_true, cond_true, cond_true, insS_split p l k (by omega) h1 (fun _ => of_decide_eq_false hd)]
  rw [ref47_insert.f_eq]
  exact key l.length 0 (by omega) (fun j h hj => by omega)
theorem rRecv_j1 (pe nx : Int) (s : PL) (z1 z2 z3 : Int) (y1 y2 hd : PL) : ∀ (L : PL) (got : Int) (out : PL), -1 ≤ got → got + L.length ≤ 2199023255552 → out.length + L.length ≤ 2000000 →
    ref47_Receive.j1 L z1 z2 z3 y1 y2 pe nx got hd s out = some ((pe, nx, got + (runS got L).1.length, s, (runS got L).2), out ++ (runS got L).1)
  | [], got, out, h0, h1, h2 => by
    rw [ref47_Receive.j1_eq]
    simp [runS]
  | y :: r, got, out, h0, h1, h2 => by
    rw [List.length_cons] at h1 h2
    have e0 : (idx (y :: r) 0 : Option PacketT) = some y := rfl
    rw [ref47_Receive.j1_eq, decide_eq_true (show ((List.length (y :: r) : Nat) : Int) > 0 by simp only [List.length_cons]; omega), cond_true, e0, Option.bind_some, wr_in (x := got + 1) (by omega) (by omega), Option.bind_some]
    show (bif sq y == got + 1 then _ else _) = _
    unfold runS
    cases hy : sq y == got + 1 with
    | false => simp
    | true =>
      have ih := rRecv_j1 pe nx s z1 z2 z3 y1 y2 hd r (got + 1) (out ++ [y]) (by omega) (by omega) (by simp; omega)
      rw [cond_true, cond_true, decide_eq_true (by simp; omega), cond_true, decide_eq_true (show 0 ≤ 1 by omega), decide_eq_true (show (1 : Int) ≤ ((List.length (y :: r) : Nat) : Int) by simp only [List.length_cons]; omega), decide_eq_true (Int.le_refl _), Bool.and_self, Bool.and_self, cond_true,
        Int.toNat_natCast, List.take_of_length_le (Nat.le_refl _), show List.drop 1 (y :: r) = r from rfl, ih]
      congr 2
      · congr 2
        congr 1
        simp only [List.length_cons]
        omega
      · simp
theorem rRecv (c : ConnT) (p : PacketT) (h : ConnL c) : ref47_Receive.f c p = some (recvS c p) := by
  have hsl := h.1.1
  have hhl := h.2.1
  rw [ref47_Receive.f_eq, rValid c h, Option.bind_some]
  unfold recvS
  cases hv : validS c with
  | false => rfl
  | true =>
    have hV := (valid_iff c).1 hv
    have hg1 := hV.g1
    have hg2 := hV.g2
    rw [Bool.not_true, cond_false, cond_false]
    cases p.1 != c.1 with
    | true => rfl
    | false =>
      rw [cond_false, cond_false]
      have hfin : ∀ s : PL, (bif decide (sq p ≤ c.2.2.1) then some ((c.1, c.2.1, c.2.2.1, s, c.2.2.2.2), ([] : PL)) else bif decide (sq p > IntKind.i64.wrap (c.2.2.1 + 16)) then some ((c.1, c.2.1, c.2.2.1, s, c.2.2.2.2), []) else bif decide (sq p > 1099511627776) then some ((c.1, c.2.1, c.2.2.1, s, c.2.2.2.2), []) else
          (ref47_find.f c.2.2.2.2 (sq p)).bind fun r0 => bif decide (r0 ≥ 0) then some ((c.1, c.2.1, c.2.2.1, s, c.2.2.2.2), []) else (ref47_insert.f c.2.2.2.2 p).bind fun r1 => ref47_Receive.j1 r1 0 0 0 [] [] c.1 c.2.1 c.2.2.1 c.2.2.2.2 s []) =
          some (bif lateS c p then ((c.1, c.2.1, c.2.2.1, s, c.2.2.2.2), []) else ((c.1, c.2.1, c.2.2.1 + (runS c.2.2.1 (insS p c.2.2.2.2)).1.length, s, (runS c.2.2.1 (insS p c.2.2.2.2)).2), (runS c.2.2.1 (insS p c.2.2.2.2)).1)) := fun s => by
        rw [wr_in (by omega) (by omega), rFind _ _ hhl, Option.bind_some, findIdx_ge, rInsert _ _ hhl, Option.bind_some]
        unfold lateS
        cases decide (sq p ≤ c.2.2.1) with
        | true => rfl
        | false =>
        cases decide (sq p > c.2.2.1 + 16) with
        | true => rfl
        | false =>
        cases decide (sq p > 1099511627776) with
        | true => rfl
        | false =>
        cases c.2.2.2.2.any fun x => sq x == sq p with
        | true => rfl
        | false =>
          have hlen : (insS p c.2.2.2.2).length = c.2.2.2.2.length + 1 := (insS_perm _ _).length_eq
          exact rRecv_j1 c.1 c.2.1 s 0 0 0 [] [] c.2.2.2.2 (insS p c.2.2.2.2) c.2.2.1 [] (by omega) (by omega) (by simp; omega)
      have := filter_loop c.2.2.2.1 (fun o i => ref47_Receive.j0 i c p 0 0 0 [] [] c.1 c.2.1 c.2.2.1 c.2.2.2.2 o) (later (ak p)) id (fun s => some (bif lateS c p then ((c.1, c.2.1, c.2.2.1, s, c.2.2.2.2), []) else ((c.1, c.2.1, c.2.2.1 + (runS c.2.2.1 (insS p c.2.2.2.2)).1.length, s, (runS c.2.2.1 (insS p c.2.2.2.2)).2), (runS c.2.2.1 (insS p c.2.2.2.2)).1)))
        (fun acc k hk ha => by
          rw [ref47_Receive.j0_eq, lt_true hk, cond_true, idx_nat, List.getElem?_eq_getElem hk, Option.bind_some, Option.bind_some, wr_succ hk (by omega), decide_eq_true (show (acc.length + [c.2.2.2.1[k]].length) * 120 ≤ 140737488355328 by simp only [List.length_cons, List.length_nil]; omega), cond_true]
          show (bif decide (sq c.2.2.2.1[k] > ak p) then _ else _) = _
          have e : decide (sq c.2.2.2.1[k] > ak p) = later (ak p) c.2.2.2.1[k] := by
            unfold later
            by_cases h : sq c.2.2.2.1[k] ≤ ak p
            · rw [decide_eq_true h, decide_eq_false (by omega)]; rfl
            · rw [decide_eq_false h, decide_eq_true (by omega)]; rfl
          rw [e]
          rfl) (fun acc _ => by
          rw [ref47_Receive.j0_eq, lt_false (Nat.le_refl _), cond_false]
          exact hfin acc)
      rw [List.map_id] at this
      exact this
end Go.Proofs.Ytpiejdjanhnbeaa

/- The chapter's examples. -/
set_option maxHeartbeats 4000000
set_option maxRecDepth 100000
namespace Go.Proofs.Ytpiejdjanhnbeaa
open Go Go.Sk
theorem awake_run : callF Try.prog cfg 9 [] [] ⟨[.one (.ty .bool)], 0⟩ = some true := lim_of_run (n := 160) (by kernel_rfl)
end Go.Proofs.Ytpiejdjanhnbeaa

/- LinkSends and LinkReceives. -/
set_option linter.unusedVariables false
set_option linter.unusedSimpArgs false
set_option maxHeartbeats 4000000
namespace Go.Proofs.Ytpiejdjanhnbeaa
open Go Go.Sk

theorem awake_eq : law47_awake.f = some true := by
  unfold law47_awake.f callX orPrim
  rw [show cfg.prim 9 [] [] ⟨[.one (.ty .bool)], 0⟩ = none from rfl]
  exact awake_run
/-! ### what is kept stays in order -/
theorem sentS_ge (peer : Int) : ∀ (l : PL) (n : Int), sentS peer n l = true → ∀ x ∈ l, n ≤ sq x
  | [], _, _, x, hx => by simp at hx
  | p :: r, n, h, x, hx => by
    simp only [sentS, Bool.and_eq_true, decide_eq_true_eq, beq_iff_eq] at h
    rcases List.mem_cons.1 hx with rfl | hx
    · omega
    · have := sentS_ge peer r (n + 1) h.2.2.2 x hx
      omega
theorem sentS_filter (peer a : Int) : ∀ (l : PL) (n : Int), sentS peer n l = true → sentS peer (n + l.length - (l.filter (later a)).length) (l.filter (later a)) = true
  | [], n, h => rfl
  | p :: r, n, h => by
    have hge := sentS_ge peer (p :: r) n h
    have h0 := h
    simp only [sentS, Bool.and_eq_true, decide_eq_true_eq, beq_iff_eq] at h
    obtain ⟨h1, h2, h3, h4⟩ := h
    by_cases hp : sq p ≤ a
    · have e : (p :: r).filter (later a) = r.filter (later a) := by
        rw [List.filter_cons]
        unfold later
        rw [decide_eq_true hp]
        rfl
      rw [e]
      have := sentS_filter peer a r (n + 1) h4
      rw [List.length_cons]
      rw [show n + ((r.length + 1 : Nat) : Int) - ((r.filter (later a)).length : Int) = n + 1 + (r.length : Int) - ((r.filter (later a)).length : Int) by omega]
      exact this
    · have e : (p :: r).filter (later a) = p :: r := List.filter_eq_self.2 fun x hx => by
        have := hge x hx
        unfold later
        rw [decide_eq_false (by omega)]
        rfl
      rw [e, show n + (((p :: r).length : Nat) : Int) - (((p :: r).length : Nat) : Int) = n by omega]
      exact h0
theorem runS_spec : ∀ (L : PL) (got : Int), Asc L → (∀ x ∈ L, got < sq x) → L = (runS got L).1 ++ (runS got L).2 ∧ (∀ (i : Nat) x, (runS got L).1[i]? = some x → sq x = got + 1 + i) ∧ ∀ x ∈ (runS got L).2, got + (runS got L).1.length + 1 < sq x
  | [], got, _, _ => ⟨rfl, fun i x h => by simp [runS] at h, fun x hx => by simp [runS] at hx⟩
  | y :: r, got, ha, hg => by
    have h1 := (List.pairwise_cons.1 ha).1
    have h2 := hg y (List.mem_cons_self ..)
    by_cases hy : sq y = got + 1
    · have e : runS got (y :: r) = (y :: (runS (got + 1) r).1, (runS (got + 1) r).2) := by
        show (bif sq y == got + 1 then _ else _) = _
        rw [beq_iff_eq.2 hy]; rfl
      obtain ⟨i1, i2, i3⟩ := runS_spec r (got + 1) (List.pairwise_cons.1 ha).2 fun x hx => by have := h1 x hx; omega
      rw [e]
      refine ⟨?_, fun i x hx => ?_, fun x hx => ?_⟩
      · show y :: r = y :: _ ++ _
        rw [List.cons_append, ← i1]
      · cases i with
        | zero => simp at hx; subst hx; omega
        | succ i =>
          have := i2 i x (by simpa using hx)
          omega
      · have := i3 x hx
        rw [List.length_cons]
        omega
    · rw [runS_no (fun z hz => by simp at hz; subst hz; exact hy)]
      refine ⟨rfl, fun i x h => by simp at h, fun x hx => ?_⟩
      have := ahead ha h2 hy x hx
      have := hg x hx
      simp
      omega
theorem Vld.recv {c : ConnT} (hv : Vld c) (hl : c.2.2.2.2.length ≤ 1000000) (p : PacketT) : Vld (recvS c p).1 := by
  have hval := (valid_iff c).2 hv
  unfold recvS
  rw [hval, Bool.not_true, cond_false]
  cases hp : p.1 != c.1 with
  | true => exact hv
  | false =>
    have hp1 : p.1 = c.1 := by simpa using hp
    have hk : sentS c.1 (c.2.1 - (keepS c p).length) (keepS c p) = true := by
      have := sentS_filter c.1 (ak p) _ _ hv.sent
      rw [show c.2.1 - (c.2.2.2.1.length : Int) + (c.2.2.2.1.length : Int) - ((c.2.2.2.1.filter (later (ak p))).length : Int) = c.2.1 - ((keepS c p).length : Int) by unfold keepS; omega] at this
      exact this
    have hkl : (keepS c p).length ≤ 16 := Nat.le_trans (List.length_filter_le _ _) hv.len
    rw [cond_false]
    cases ht : lateS c p with
    | true => exact ⟨hv.p1, hv.p2, hv.n1, hv.n2, hv.g1, hv.g2, hkl, hk, hv.held⟩
    | false =>
      have hin := inTime ht
      have hh := hv.heldOK
      have hg1 := hv.g1
      have hg2 := hv.g2
      obtain ⟨hL, hgt, hln⟩ := hin.laid hv hl (E := p :: c.2.2.2.2) (.refl _)
      obtain ⟨r1, r2, r3⟩ := runS_spec _ _ hL.asc hgt
      have hrng : ∀ x ∈ insS p c.2.2.2.2, x.1 = c.1 ∧ sq x ≤ c.2.2.1 + 16 ∧ sq x ≤ 1099511627776 := fun x hx => by
        rcases List.mem_cons.1 ((insS_perm _ _).mem_iff.1 hx) with rfl | hx
        · exact ⟨hp1, hin.hi, hin.mx⟩
        · exact ⟨(hh.rng x hx).1, (hh.rng x hx).2.2.1, (hh.rng x hx).2.2.2⟩
      have hgot : c.2.2.1 + ((runS c.2.2.1 (insS p c.2.2.2.2)).1.length : Int) ≤ 1099511627776 := by
        rcases Nat.eq_zero_or_pos (runS c.2.2.1 (insS p c.2.2.2.2)).1.length with h0 | h0
        · omega
        · have hlt : (runS c.2.2.1 (insS p c.2.2.2.2)).1.length - 1 < (runS c.2.2.1 (insS p c.2.2.2.2)).1.length := by omega
          have hx := r2 _ _ (List.getElem?_eq_getElem hlt)
          have hm := (hrng _ (by rw [r1]; exact List.mem_append.2 (.inl (List.getElem_mem hlt)))).2.2
          omega
      refine ⟨hv.p1, hv.p2, hv.n1, hv.n2, ?_, hgot, hkl, hk, ?_⟩
      · show 0 ≤ c.2.2.1 + _
        omega
      · refine (heldS_iff _ _ _ _).2 ⟨?_, fun x hx => ?_⟩
        · have := hL.asc
          rw [r1] at this
          exact (List.pairwise_append.1 this).2.1
        · have hm := hrng x (by rw [r1]; exact List.mem_append.2 (.inr hx))
          have := r3 x hx
          refine ⟨hm.1, ?_, ?_, hm.2.2⟩
          · show c.2.2.1 + _ + 1 < sq x
            omega
          · show sq x ≤ c.2.2.1 + _ + 16
            omega
/-! ### what comes out is short -/
structure ConnF (c : ConnT) : Prop where
  sl : c.2.2.2.1.length ≤ 900000
  sb : ∀ p ∈ c.2.2.2.1, BatL (bat p)
  hl : c.2.2.2.2.length ≤ 900000
  hb : ∀ p ∈ c.2.2.2.2, BatL (bat p)
theorem ConnF.conn {c : ConnT} (h : ConnF c) : ConnL c := ⟨⟨by have := h.sl; omega, h.sb⟩, ⟨by have := h.hl; omega, h.hb⟩⟩
theorem Light.connF {c : ConnT} (h : Light c) : ConnF c := ⟨by have := h.len; omega, fun p hp => (h.sent p hp).bat, by have := h.len; omega, fun p hp => (h.held p hp).bat⟩
theorem zero_conn : ConnL zeroC0 := ⟨⟨by simp, by simp⟩, ⟨by simp, by simp⟩⟩
theorem zero_bat : BatL (bat zeroP) := ⟨by show 0 ≤ 2000000; omega, fun c hc => by simp [bat] at hc⟩
theorem stamp_bat (c : ConnT) (p : PacketT) : bat (stamp c p) = bat p := rfl
theorem send_conn {c : ConnT} {p : PacketT} (h : ConnF c) (hp : BatL (bat p)) : ConnL (sendS c p).1 ∧ BatL (bat (sendS c p).2.1) := by
  unfold sendS
  cases (!validS c) with
  | true => exact ⟨zero_conn, zero_bat⟩
  | false =>
  cases p.2.1 != c.1 with
  | true => exact ⟨zero_conn, zero_bat⟩
  | false =>
  cases decide ((c.2.2.2.1.length : Int) ≥ 16) with
  | true => exact ⟨zero_conn, zero_bat⟩
  | false =>
  cases decide (c.2.1 ≥ 1099511627776) with
  | true => exact ⟨zero_conn, zero_bat⟩
  | false =>
    have h1 := h.sl
    have h2 := h.hl
    refine ⟨⟨⟨?_, fun q hq => ?_⟩, ⟨?_, h.hb⟩⟩, hp⟩
    · show (c.2.2.2.1 ++ [stamp c p]).length ≤ 1000000
      simp
      omega
    · rcases List.mem_append.1 (show q ∈ c.2.2.2.1 ++ [stamp c p] from hq) with hq | hq
      · exact h.sb q hq
      · simp at hq
        subst hq
        exact hp
    · show c.2.2.2.2.length ≤ 1000000
      omega
theorem acked_bat (c : ConnT) (p : PacketT) : bat (acked c p) = bat p := rfl
theorem resend_ok {c : ConnT} (h : ConnF c) : (resendS c).length ≤ 1000000 ∧ ∀ p ∈ resendS c, BatL (bat p) := by
  unfold resendS
  cases (!validS c) with
  | true => exact ⟨by simp, fun p hp => by simp at hp⟩
  | false =>
    have h1 := h.sl
    refine ⟨?_, fun p hp => ?_⟩
    · show (c.2.2.2.1.map (acked c)).length ≤ 1000000
      rw [List.length_map]; omega
    · obtain ⟨q, hq, rfl⟩ := List.mem_map.1 (show p ∈ c.2.2.2.1.map (acked c) from hp)
      exact h.sb q hq
theorem recv_conn {c : ConnT} {p : PacketT} (h : ConnF c) (hp : BatL (bat p)) : ConnL (recvS c p).1 ∧ (recvS c p).2.length ≤ 1000000 ∧ ∀ q ∈ (recvS c p).2, BatL (bat q) := by
  have hc := h.conn
  have triv : ConnL c ∧ ([] : PL).length ≤ 1000000 ∧ ∀ q ∈ ([] : PL), BatL (bat q) := ⟨hc, by simp, fun q hq => by simp at hq⟩
  unfold recvS
  cases hvv : validS c with
  | false => exact triv
  | true =>
  cases p.1 != c.1 with
  | true => exact triv
  | false =>
    have hk : (keepS c p).length ≤ 1000000 ∧ ∀ q ∈ keepS c p, BatL (bat q) := ⟨by have := List.length_filter_le (later (ak p)) c.2.2.2.1; have := h.sl; unfold keepS; omega, fun q hq => h.sb q (List.mem_filter.1 hq).1⟩
    cases ht : lateS c p with
    | true => exact ⟨⟨hk, ⟨hc.2.1, h.hb⟩⟩, by simp, fun q hq => by simp at hq⟩
    | false =>
      have hin := inTime ht
      have hV := (valid_iff c).1 hvv
      obtain ⟨hL, hgt, hln⟩ := hin.laid hV hc.2.1 (E := p :: c.2.2.2.2) (.refl _)
      obtain ⟨r1, _, _⟩ := runS_spec _ _ hL.asc hgt
      have hlen := congrArg List.length r1
      rw [List.length_append, hln] at hlen
      have h2 := h.hl
      have hall : ∀ q ∈ insS p c.2.2.2.2, BatL (bat q) := fun q hq => by
        rcases List.mem_cons.1 ((insS_perm _ _).mem_iff.1 hq) with rfl | hq
        · exact hp
        · exact h.hb q hq
      refine ⟨⟨hk, ⟨?_, fun q hq => hall q (by rw [r1]; exact List.mem_append.2 (.inr hq))⟩⟩, ?_, fun q hq => hall q (by rw [r1]; exact List.mem_append.2 (.inl hq))⟩
      · show (runS c.2.2.1 (insS p c.2.2.2.2)).2.length ≤ 1000000
        omega
      · show (runS c.2.2.1 (insS p c.2.2.2.2)).1.length ≤ 1000000
        omega
/-! ### the statements -/
theorem wNew (n : Int) : link_New.f n = some (n, 1, 0, [], []) := link_New.f_eq n
theorem rNew (n : Int) : ref47_New.f n = some (n, 1, 0, [], []) := ref47_New.f_eq n
theorem new_conn (n : Int) : ConnL (n, 1, 0, [], []) := ⟨⟨by simp, by simp⟩, ⟨by simp, by simp⟩⟩
theorem sends (c : ConnT) (p : PacketT) (peer : Int) (hb : (c.2.2.2.1.length + c.2.2.2.2.length) * 120 ≤ 140737488355328) (hg : I64 c.2.2.1) : law47_LinkSends.f c p peer = some true := by
  rw [law47_LinkSends.f_eq, light_eq c hb, Option.bind_some, awake_eq]
  cases h1 : lightS c with
  | false => rfl
  | true =>
    have hL := light_spec h1
    have hF := hL.connF
    have hC := hF.conn
    rw [Bool.not_true, cond_false, short_eq, Option.bind_some]
    cases h2 : shortS p with
    | false => rfl
    | true =>
      have hS := short_spec h2
      obtain ⟨s1, s2⟩ := send_conn hF hS.bat
      obtain ⟨r1, r2⟩ := resend_ok hF
      rw [Bool.not_true, cond_false, wSend c p hC hg, Option.bind_some, rSend c p hC, Option.bind_some, wValid c hC hg, Option.bind_some, rValid c hC, Option.bind_some, beq_self_eq_true, cond_true, same_refl _ s1, Option.bind_some, cond_true, samePacket_refl _ s2, Option.bind_some, cond_true,
        beq_self_eq_true, cond_true, wResend c hC hg, Option.bind_some, rResend c hC, Option.bind_some, samePackets_refl _ r1 r2, Option.bind_some, cond_true, wNew, Option.bind_some, rNew, Option.bind_some, same_refl _ (new_conn peer)]
      rfl
theorem receives (c : ConnT) (p : PacketT) (hb : (c.2.2.2.1.length + c.2.2.2.2.length) * 120 ≤ 140737488355328) (hg : I64 c.2.2.1) : law47_LinkReceives.f c p = some true := by
  rw [law47_LinkReceives.f_eq, light_eq c hb, Option.bind_some, awake_eq]
  cases h1 : lightS c with
  | false => rfl
  | true =>
    have hL := light_spec h1
    have hF := hL.connF
    have hC := hF.conn
    rw [Bool.not_true, cond_false, short_eq, Option.bind_some]
    cases h2 : shortS p with
    | false => rfl
    | true =>
      have hS := short_spec h2
      obtain ⟨s1, s2, s3⟩ := recv_conn hF hS.bat
      rw [Bool.not_true, cond_false, wRecv c p hC hg, Option.bind_some, rRecv c p hC, Option.bind_some, same_refl _ s1, Option.bind_some, cond_true, samePackets_refl _ s2 s3, Option.bind_some, cond_true, rValid c hC, Option.bind_some]
      cases h3 : validS c with
      | false => rfl
      | true =>
        have hV := ((valid_iff c).1 h3).recv hC.2.1 p
        have hg' : I64 (recvS c p).1.2.2.1 := ⟨by have := hV.g1; omega, by have := hV.g2; omega⟩
        rw [Bool.not_true, cond_false, wValid _ s1 hg', (valid_iff _).2 hV]
        rfl
end Go.Proofs.Ytpiejdjanhnbeaa

/- LinkInOrder: what the receiver hands on are the first packets that were sent. -/
set_option linter.unusedVariables false
set_option linter.unusedSimpArgs false
set_option maxHeartbeats 4000000
namespace Go.Proofs.Ytpiejdjanhnbeaa
open Go Go.Sk

def tn (p : PacketT) : Int := p.2.2.2.2.2.1
/-- a packet that was sent -/
structure Gen (S : List Int) (p : PacketT) : Prop where
  f : p.1 = 1
  b : bat p = zeroB
  s1 : 1 ≤ sq p
  s2 : sq p ≤ S.length
  t : S[(sq p - 1).toNat]? = some (tn p)
theorem Gen.more {S : List Int} {p : PacketT} (h : Gen S p) (x : Int) : Gen (S ++ [x]) p :=
  ⟨h.f, h.b, h.s1, by have := h.s2; simp; omega, by
    rw [List.getElem?_append_left (by have := h.s1; have := h.s2; omega)]; exact h.t⟩
theorem Gen.bat {S : List Int} {p : PacketT} (h : Gen S p) : BatL (bat p) := by rw [h.b]; exact zero_bat
structure In (i : Nat) (a b : ConnT) (W : PL) (S G : List Int) : Prop where
  a1 : a.1 = 2
  an : a.2.1 = S.length + 1
  ag : a.2.2.1 = 0
  ah : a.2.2.2.2 = []
  av : Vld a
  asn : ∀ p ∈ a.2.2.2.1, Gen S p
  al : S.length ≤ a.2.2.2.1.length + G.length
  b1 : b.1 = 1
  bs : b.2.2.2.1 = []
  bg : b.2.2.1 = G.length
  bv : Vld b
  bh : ∀ p ∈ b.2.2.2.2, Gen S p
  bl : b.2.2.2.2.length ≤ i
  w : ∀ p ∈ W, Gen S p
  wl : W.length ≤ 4000
  g : G = S.take G.length
  sl : S.length ≤ i
section
variable {i : Nat} {a b : ConnT} {W : PL} {S G : List Int}
theorem In.gl (h : In i a b W S G) : G.length ≤ S.length := by
  have := congrArg List.length h.g
  rw [List.length_take] at this
  omega
theorem In.aC (h : In i a b W S G) : ConnF a := ⟨by have := h.av.len; omega, fun p hp => (h.asn p hp).bat, by rw [h.ah]; simp, fun p hp => by rw [h.ah] at hp; simp at hp⟩
theorem In.bC (h : In i a b W S G) (hi : i ≤ 200) : ConnF b := ⟨by rw [h.bs]; simp, fun p hp => by rw [h.bs] at hp; simp at hp, by have := h.bl; omega, fun p hp => (h.bh p hp).bat⟩
theorem In.i64a (h : In i a b W S G) : I64 a.2.2.1 := ⟨by rw [h.ag]; omega, by rw [h.ag]; omega⟩
theorem In.i64b (h : In i a b W S G) : I64 b.2.2.1 := ⟨by have := h.bv.g1; omega, by have := h.bv.g2; omega⟩
theorem In.next (h : In i a b W S G) : In (i + 1) a b W S G := { h with bl := by have := h.bl; omega, sl := by have := h.sl; omega }
/-- 0: another packet -/
theorem In.send (h : In i a b W S G) (hi : i < 200) (N : Int) (hlt : a.2.2.2.1.length < 16) :
    sendS a (1, 2, 2, 0, 0, N, 0, zeroB, ⟨#[]⟩) = ((a.1, a.2.1 + 1, a.2.2.1, a.2.2.2.1 ++ [stamp a (1, 2, 2, 0, 0, N, 0, zeroB, ⟨#[]⟩)], a.2.2.2.2), stamp a (1, 2, 2, 0, 0, N, 0, zeroB, ⟨#[]⟩), 0) ∧
    (W.length + 1 ≤ 4000 → In (i + 1) (a.1, a.2.1 + 1, a.2.2.1, a.2.2.2.1 ++ [stamp a (1, 2, 2, 0, 0, N, 0, zeroB, ⟨#[]⟩)], a.2.2.2.2) b (W ++ [stamp a (1, 2, 2, 0, 0, N, 0, zeroB, ⟨#[]⟩)]) (S ++ [N]) G) := by
  have hV := h.av
  have hn := h.an
  have hsl := h.sl
  have hgen : Gen (S ++ [N]) (stamp a (1, 2, 2, 0, 0, N, 0, zeroB, ⟨#[]⟩)) := by
    have e : sq (stamp a (1, 2, 2, 0, 0, N, 0, zeroB, ⟨#[]⟩)) = a.2.1 := rfl
    refine ⟨rfl, rfl, by rw [e, hn]; omega, by rw [e, hn]; simp, ?_⟩
    rw [e, hn, show ((S.length : Int) + 1 - 1).toNat = S.length by omega, List.getElem?_append_right (Nat.le_refl _), Nat.sub_self]
    rfl
  refine ⟨?_, fun hw => ?_⟩
  · unfold sendS
    rw [(valid_iff a).2 hV, Bool.not_true, cond_false, h.a1, show ((2 : Int) != 2) = false from rfl, cond_false, decide_eq_false (by omega), cond_false, decide_eq_false (by omega), cond_false]
  · have hs : sentS a.1 (a.2.1 + 1 - ((a.2.2.2.1 ++ [stamp a (1, 2, 2, 0, 0, N, 0, zeroB, ⟨#[]⟩)]).length : Int)) (a.2.2.2.1 ++ [stamp a (1, 2, 2, 0, 0, N, 0, zeroB, ⟨#[]⟩)]) = true := by
      have key : ∀ (l : PL) (n : Int), sentS a.1 n l = true → 1 ≤ n + l.length → ∀ q : PacketT, q.2.1 = a.1 → sq q = n + l.length → sentS a.1 n (l ++ [q]) = true := by
        intro l
        induction l with
        | nil =>
          intro n _ h1 q h2 h3
          simp only [List.length_nil] at h1 h3
          show (q.2.1 == a.1 && (decide (1 ≤ n) && (sq q == n && true))) = true
          rw [beq_iff_eq.2 h2, decide_eq_true (by omega), beq_iff_eq.2 (by omega)]
          rfl
        | cons x r ih =>
          intro n hx h1 q h2 h3
          simp only [sentS, Bool.and_eq_true] at hx
          rw [List.length_cons] at h1 h3
          show (x.2.1 == a.1 && (decide (1 ≤ n) && (sq x == n && sentS a.1 (n + 1) (r ++ [q])))) = true
          rw [ih (n + 1) hx.2.2.2 (by omega) q h2 (by omega), hx.1, hx.2.1, hx.2.2.1]
          rfl
      have := key a.2.2.2.1 (a.2.1 - a.2.2.2.1.length) hV.sent (by have := hV.n1; omega) (stamp a (1, 2, 2, 0, 0, N, 0, zeroB, ⟨#[]⟩)) (by rw [h.a1]; rfl) (by show a.2.1 = _; omega)
      rw [show a.2.1 + 1 - ((a.2.2.2.1 ++ [stamp a (1, 2, 2, 0, 0, N, 0, zeroB, ⟨#[]⟩)]).length : Int) = a.2.1 - (a.2.2.2.1.length : Int) by simp; omega]
      exact this
    refine ⟨h.a1, by show a.2.1 + 1 = _; rw [hn]; simp, h.ag, h.ah, ⟨hV.p1, hV.p2, ?_, ?_, hV.g1, hV.g2, ?_, hs, hV.held⟩, fun p hp => ?_, ?_, h.b1, h.bs, h.bg, h.bv, fun p hp => (h.bh p hp).more N, by have := h.bl; omega, fun p hp => ?_, by simp; omega, ?_, by simp; omega⟩
    · show 1 ≤ a.2.1 + 1
      have := hV.n1; omega
    · show a.2.1 + 1 ≤ 1099511627776
      omega
    · show (a.2.2.2.1 ++ [_]).length ≤ 16
      simp; omega
    · rcases List.mem_append.1 (show p ∈ a.2.2.2.1 ++ [_] from hp) with hp | hp
      · exact (h.asn p hp).more N
      · simp at hp; subst hp; exact hgen
    · show (S ++ [N]).length ≤ (a.2.2.2.1 ++ [_]).length + G.length
      have := h.al
      simp; omega
    · rcases List.mem_append.1 hp with hp | hp
      · exact (h.w p hp).more N
      · simp at hp; subst hp; exact hgen
    · have := h.gl
      rw [List.take_append_of_le_length this]
      exact h.g
theorem In.full (h : In i a b W S G) (N : Int) (hge : ¬ a.2.2.2.1.length < 16) : sendS a (1, 2, 2, 0, 0, N, 0, zeroB, ⟨#[]⟩) = (zeroC0, zeroP, 17) := by
  unfold sendS
  rw [(valid_iff a).2 h.av, Bool.not_true, cond_false, h.a1, show ((2 : Int) != 2) = false from rfl, cond_false, decide_eq_true (by omega), cond_true]
/-- 1: all again -/
theorem In.again (h : In i a b W S G) (hw : (W ++ resendS a).length ≤ 4000) : In (i + 1) a b (W ++ resendS a) S G := by
  refine { h.next with w := fun p hp => ?_, wl := hw }
  rcases List.mem_append.1 hp with hp | hp
  · exact h.w p hp
  · unfold resendS at hp
    rw [(valid_iff a).2 h.av, Bool.not_true, cond_false] at hp
    obtain ⟨q, hq, rfl⟩ := List.mem_map.1 hp
    have := h.asn q hq
    exact ⟨this.f, this.b, this.s1, this.s2, this.t⟩
/-- 2: a packet arrives -/
theorem In.recv (h : In i a b W S G) (hi : i < 200) {p : PacketT} (hp : p ∈ W) : In (i + 1) a (recvS b p).1 W S (G ++ (recvS b p).2.map tn) := by
  have hgp := h.w p hp
  have hC := (h.bC (by omega)).conn
  have hV := h.bv
  have hV' := hV.recv hC.2.1 p
  have hgl := h.gl
  have hbl := h.bl
  revert hV'
  unfold recvS
  rw [(valid_iff b).2 hV, Bool.not_true, cond_false, hgp.f, h.b1, show ((1 : Int) != 1) = false from rfl, cond_false]
  have hk : keepS b p = [] := by unfold keepS; rw [h.bs]; rfl
  cases ht : lateS b p with
  | true =>
    intro hV'
    rw [cond_true] at hV' ⊢
    refine { h.next with b1 := rfl, bs := hk, bg := by simpa using h.bg, bv := hV', bh := h.bh, bl := by show b.2.2.2.2.length ≤ i + 1; omega, al := by have := h.al; simp; omega, g := by simpa using h.g }
  | false =>
    intro hV'
    rw [cond_false] at hV' ⊢
    have hin := inTime ht
    obtain ⟨hL, hgt, hln⟩ := hin.laid hV hC.2.1 (E := p :: b.2.2.2.2) (.refl _)
    obtain ⟨r1, r2, r3⟩ := runS_spec _ _ hL.asc hgt
    have hall : ∀ q ∈ insS p b.2.2.2.2, Gen S q := fun q hq => by
      rcases List.mem_cons.1 ((insS_perm _ _).mem_iff.1 hq) with rfl | hq
      · exact hgp
      · exact h.bh q hq
    have hlen := congrArg List.length r1
    rw [List.length_append, hln] at hlen
    have hbg := h.bg
    have hout : ∀ (j : Nat) q, (runS b.2.2.1 (insS p b.2.2.2.2)).1[j]? = some q → S[G.length + j]? = some (tn q) := fun j q hq => by
      have h1 := r2 j q hq
      have h2 := (hall q (by rw [r1]; exact List.mem_append.2 (.inl (List.mem_of_getElem? hq)))).t
      rw [h1, hbg, show ((G.length : Int) + 1 + (j : Int) - 1).toNat = G.length + j by omega] at h2
      exact h2
    have hg : G ++ (runS b.2.2.1 (insS p b.2.2.2.2)).1.map tn = S.take (G.length + (runS b.2.2.1 (insS p b.2.2.2.2)).1.length) := by
      apply List.ext_getElem?
      intro j
      rcases Nat.lt_or_ge j G.length with hj | hj
      · rw [List.getElem?_append_left hj, List.getElem?_take_of_lt (by omega)]
        exact (congrArg (fun z : List Int => z[j]?) h.g).trans (List.getElem?_take_of_lt hj)
      · rw [List.getElem?_append_right hj, List.getElem?_map]
        rcases Nat.lt_or_ge (j - G.length) (runS b.2.2.1 (insS p b.2.2.2.2)).1.length with hj2 | hj2
        · have := hout (j - G.length) _ (List.getElem?_eq_getElem hj2)
          rw [List.getElem?_eq_getElem hj2, Option.map_some, List.getElem?_take_of_lt (by omega), ← this]
          congr 1
          omega
        · rw [List.getElem?_eq_none hj2, List.getElem?_eq_none (by rw [List.length_take]; omega)]
          rfl
    have hgl2 : (G ++ (runS b.2.2.1 (insS p b.2.2.2.2)).1.map tn).length = G.length + (runS b.2.2.1 (insS p b.2.2.2.2)).1.length := by rw [List.length_append, List.length_map]
    refine { h.next with b1 := rfl, bs := hk, bg := ?_, bv := hV', bh := fun q hq => hall q (by rw [r1]; exact List.mem_append.2 (.inr hq)), bl := ?_, al := ?_, g := ?_ }
    · have := h.al
      show S.length ≤ _ + (G ++ (runS b.2.2.1 (insS p b.2.2.2.2)).1.map tn).length
      rw [hgl2]; omega
    · show b.2.2.1 + _ = _
      rw [hgl2, hbg]; omega
    · show (runS b.2.2.1 (insS p b.2.2.2.2)).2.length ≤ i + 1
      omega
    · show G ++ (runS b.2.2.1 (insS p b.2.2.2.2)).1.map tn = S.take (G ++ (runS b.2.2.1 (insS p b.2.2.2.2)).1.map tn).length
      rw [hgl2]; exact hg
/-- 3: an acknowledgement arrives -/
theorem In.ack (h : In i a b W S G) (hi : i < 200) :
    (recvS a (2, 1, 0, 0, b.2.2.1, 0, 0, zeroB, ⟨#[]⟩)).2 = [] ∧ ((recvS a (2, 1, 0, 0, b.2.2.1, 0, 0, zeroB, ⟨#[]⟩)).1.2.2.2.1.length : Int) = S.length - b.2.2.1 ∧ In (i + 1) (recvS a (2, 1, 0, 0, b.2.2.1, 0, 0, zeroB, ⟨#[]⟩)).1 b W S G := by
  have hV := h.av
  have hC := h.aC.conn
  have hV' := hV.recv hC.2.1 (2, 1, 0, 0, b.2.2.1, 0, 0, zeroB, ⟨#[]⟩)
  have hgl := h.gl
  have hal := h.al
  have hbg := h.bg
  have hn := h.an
  have hlate : lateS a (2, 1, 0, 0, b.2.2.1, 0, 0, zeroB, ⟨#[]⟩) = true := by
    unfold lateS
    rw [decide_eq_true (show sq (2, 1, 0, 0, b.2.2.1, 0, 0, zeroB, ⟨#[]⟩) ≤ a.2.2.1 by show (0 : Int) ≤ _; rw [h.ag]; omega)]
    rfl
  have hk : ((keepS a (2, 1, 0, 0, b.2.2.1, 0, 0, zeroB, ⟨#[]⟩)).length : Int) = S.length - b.2.2.1 := by
    have key : ∀ (l : PL) (n : Int), sentS a.1 n l = true → n ≤ (G.length : Int) + 1 → (G.length : Int) + 1 ≤ n + l.length → ((l.filter (later G.length)).length : Int) = n + l.length - 1 - G.length := by
      intro l
      induction l with
      | nil => intro n _ h1 h2; simp at h2 ⊢; omega
      | cons x r ih =>
        intro n hx h1 h2
        have hge := sentS_ge _ _ _ hx
        have hx0 := hx
        simp only [sentS, Bool.and_eq_true, beq_iff_eq] at hx
        rw [List.length_cons] at h2 ⊢
        by_cases h3 : n = (G.length : Int) + 1
        · have e : (x :: r).filter (later G.length) = x :: r := List.filter_eq_self.2 fun y hy => by
            have := hge y hy
            unfold later
            rw [decide_eq_false (by omega)]
            rfl
          rw [e, List.length_cons]
          omega
        · have e : (x :: r).filter (later G.length) = r.filter (later G.length) := by
            rw [List.filter_cons]
            unfold later
            rw [decide_eq_true (by have := hx.2.2.1; omega)]
            rfl
          rw [e, ih (n + 1) hx.2.2.2 (by omega) (by omega)]
          omega
    have := key a.2.2.2.1 (a.2.1 - a.2.2.2.1.length) hV.sent (by omega) (by omega)
    unfold keepS
    rw [show ak (2, 1, 0, 0, b.2.2.1, 0, 0, zeroB, ⟨#[]⟩) = (G.length : Int) from hbg, this]
    omega
  revert hV'
  unfold recvS
  rw [(valid_iff a).2 hV, Bool.not_true, cond_false, h.a1, show ((2 : Int) != 2) = false from rfl, cond_false, hlate, cond_true]
  intro hV'
  refine ⟨rfl, hk, { h.next with a1 := rfl, an := hn, ag := h.ag, ah := h.ah, av := hV', asn := fun p hp => h.asn p (List.mem_filter.1 hp).1, al := ?_ }⟩
  show S.length ≤ (keepS a (2, 1, 0, 0, b.2.2.1, 0, 0, zeroB, ⟨#[]⟩)).length + G.length
  omega
end
/-! ### the loops -/
theorem got_j1 (l : List (Int × Int)) (i : Nat) (a b : ConnT) (W : PL) (S : List Int) (d : PL) (hd : d.length ≤ 100000) : ∀ (m k : Nat) (G : List Int), k + m = d.length → G.length + m ≤ 1000000 →
    law47_LinkInOrder.j1 l i d k a b W S G = bif decide ((W.length : Int) > 4000) then some true else law47_LinkInOrder.j0 l (IntKind.i64.wrap ((i : Int) + 1)) a b W S (G ++ (d.drop k).map tn) := by
  intro m
  induction m with
  | zero =>
    intro k G hk _
    rw [law47_LinkInOrder.j1_eq, decide_eq_false (by omega), cond_false, awake_eq, List.drop_of_length_le (by omega)]
    simp
  | succ m ih =>
    intro k G hk hG
    have hlt : k < d.length := by omega
    rw [law47_LinkInOrder.j1_eq, lt_true hlt, cond_true, idx_nat, List.getElem?_eq_getElem hlt, Option.bind_some, cond_dec, if_pos (by simp; omega), wr_succ hlt (by omega), ih (k + 1) (G ++ [d[k].2.2.2.2.2.1]) (by omega) (by simp; omega), List.drop_eq_getElem_cons hlt]
    simp only [List.map_cons, List.append_assoc, List.singleton_append]
    rfl
theorem end_j2 (S G : List Int) (hS : S.length ≤ 1000000) (hg : G = S.take G.length) (hl : G.length ≤ S.length) : ∀ (m k : Nat), k + m = G.length → law47_LinkInOrder.j2 k S G = some true := by
  intro m
  induction m with
  | zero =>
    intro k hk
    rw [law47_LinkInOrder.j2_eq, decide_eq_false (by omega), cond_false, awake_eq]
    rfl
  | succ m ih =>
    intro k hk
    have hlt : k < G.length := by omega
    have hlt2 : k < S.length := by omega
    have he : G[k] = S[k] := by
      have h1 : G[k]? = S[k]? := (congrArg (fun z : List Int => z[k]?) hg).trans (List.getElem?_take_of_lt hlt)
      rw [List.getElem?_eq_getElem hlt, List.getElem?_eq_getElem hlt2] at h1
      exact Option.some.inj h1
    rw [law47_LinkInOrder.j2_eq, lt_true hlt, cond_true, Bool.and_true, decide_eq_true (Int.natCast_nonneg k), cond_true, Int.toNat_natCast, List.getElem?_eq_getElem hlt, Option.bind_some, lt_true hlt2, Bool.and_true, cond_true, List.getElem?_eq_getElem hlt2, Option.bind_some, he, bne_self_eq_false, cond_false, wr_succ hlt (by omega)]
    exact ih (k + 1) (by omega)
theorem order_j0 (l : List (Int × Int)) (hl : l.length ≤ 200) : ∀ (m i : Nat) (a b : ConnT) (W : PL) (S G : List Int), i + m = l.length → In i a b W S G → law47_LinkInOrder.j0 l i a b W S G = some true := by
  intro m
  induction m with
  | zero =>
    intro i a b W S G hi h
    have hgl := h.gl
    have hsl := h.sl
    have hC := h.aC.conn
    have hD := (h.bC (by omega)).conn
    rw [law47_LinkInOrder.j0_eq, decide_eq_false (by omega), cond_false, decide_eq_false (by omega), cond_false, h.bg, bne_self_eq_false, cond_false, wValid a hC h.i64a, Option.bind_some, (valid_iff a).2 h.av, Bool.not_true, cond_false, wValid b hD h.i64b, Option.bind_some, (valid_iff b).2 h.bv, Bool.not_true, cond_false]
    exact end_j2 S G (by omega) h.g hgl G.length 0 (by omega)
  | succ m ih =>
    intro i a b W S G hi h
    have hlt : i < l.length := by omega
    have hgl := h.gl
    have hsl := h.sl
    have hwl := h.wl
    have hC := h.aC.conn
    have hD := (h.bC (by omega)).conn
    have over : ∀ (x : Option Bool), (W : PL).length ≤ 4000 → (bif decide ((W.length : Int) > 4000) then (some true).bind (fun r4 : Bool => some r4) else x) = x := fun x hw => by rw [decide_eq_false (by omega), cond_false]
    have onward : law47_LinkInOrder.j0 l ((i + 1 : Nat) : Int) a b W S G = some true := ih (i + 1) a b W S G (by omega) h.next
    rw [law47_LinkInOrder.j0_eq, lt_true hlt, cond_true, idx_nat, List.getElem?_eq_getElem hlt, Option.bind_some, wr_succ hlt (by omega), awake_eq]
    generalize l[i] = op
    obtain ⟨K, N⟩ := op
    simp only [Option.bind_some]
    cases h0 : K == 0 with
    | true =>
      rw [cond_true, wSend a _ hC h.i64a, Option.bind_some]
      by_cases hs : a.2.2.2.1.length < 16
      · obtain ⟨e, hin⟩ := h.send (by omega) N hs
        rw [e]
        simp only
        rw [decide_eq_true (show (a.2.2.2.1.length : Int) < 16 by omega), show (!(((0 : Int) == 0) == true)) = false from rfl, cond_false, show ((0 : Int) == 0) = true from rfl, cond_true, cond_dec, if_pos (by simp; omega), cond_dec, if_pos (by simp; omega)]
        by_cases hw : W.length + 1 ≤ 4000
        · rw [decide_eq_false (by simp; omega), cond_false]
          exact ih (i + 1) _ _ _ _ _ (by omega) (hin hw)
        · rw [decide_eq_true (by simp; omega), cond_true]
      · rw [h.full N hs]
        simp only
        rw [decide_eq_false (show ¬ (a.2.2.2.1.length : Int) < 16 by omega), show (!(((17 : Int) == 0) == false)) = false from rfl, cond_false, show ((17 : Int) == 0) = false from rfl, cond_false, decide_eq_false (by omega), cond_false]
        exact onward
    | false =>
    rw [cond_false]
    cases h1 : K == 1 with
    | true =>
      have hr : (resendS a).length ≤ 16 := by
        unfold resendS
        rw [(valid_iff a).2 h.av, Bool.not_true, cond_false, List.length_map]
        exact h.av.len
      rw [cond_true, wResend a hC h.i64a, Option.bind_some, cond_dec, if_pos (by omega)]
      by_cases hw : (W ++ resendS a).length ≤ 4000
      · rw [decide_eq_false (by omega), cond_false]
        exact ih (i + 1) _ _ _ _ _ (by omega) (h.again hw)
      · rw [decide_eq_true (by omega), cond_true]
    | false =>
    rw [cond_false]
    cases h2 : K == 2 with
    | true =>
      rw [cond_true]
      by_cases n0 : N < 0
      · rw [decide_eq_true n0, cond_true]; exact onward
      rw [decide_eq_false n0, cond_false]
      by_cases n1 : N ≥ (W.length : Int)
      · rw [decide_eq_true n1, cond_true]; exact onward
      have hnl : N.toNat < W.length := by omega
      have hm : W[N.toNat] ∈ W := List.getElem_mem hnl
      have hR := h.recv (by omega) hm
      have hout : (recvS b W[N.toNat]).2.length ≤ 1000000 := (recv_conn (h.bC (by omega)) (h.w _ hm).bat).2.1
      have hG := hR.gl
      rw [List.length_append, List.length_map] at hG
      rw [decide_eq_false n1, cond_false, decide_eq_true (show 0 ≤ N by omega), decide_eq_true (show N < (W.length : Int) by omega), Bool.and_self, cond_true, List.getElem?_eq_getElem hnl, Option.bind_some, wRecv b _ hD h.i64b, Option.bind_some]
      have := got_j1 l i a (recvS b W[N.toNat]).1 W S (recvS b W[N.toNat]).2 (by omega) (recvS b W[N.toNat]).2.length 0 G (by omega) (by omega)
      rw [decide_eq_false (show ¬ (W.length : Int) > 4000 by omega), cond_false, wr_succ hlt (by omega), List.drop_zero] at this
      exact this.trans (ih (i + 1) _ _ _ _ _ (by omega) hR)
    | false =>
    rw [cond_false]
    cases h3 : K == 3 with
    | true =>
      obtain ⟨k1, k2, k3⟩ := h.ack (by omega)
      have hbg := h.bg
      rw [cond_true, wRecv a _ hC h.i64a, Option.bind_some, k1, decide_eq_false (by simp), cond_false, k2, wr_in (by omega) (by omega), bne_self_eq_false, cond_false, decide_eq_false (by omega), cond_false]
      exact ih (i + 1) _ _ _ _ _ (by omega) k3
    | false =>
      rw [cond_false, decide_eq_false (by omega), cond_false]
      exact onward
theorem inOrder (l : List (Int × Int)) : law47_LinkInOrder.f l = some true := by
  rw [law47_LinkInOrder.f_eq, awake_eq]
  by_cases hl : (l.length : Int) > 200
  · rw [decide_eq_true hl]; rfl
  · rw [decide_eq_false hl, cond_false, wNew, Option.bind_some, wNew, Option.bind_some]
    refine order_j0 l (by omega) l.length 0 _ _ _ _ _ (by omega) ?_
    have hv : ∀ n : Int, 1 ≤ n → n ≤ 12 → Vld (n, 1, 0, [], []) := fun n h1 h2 => ⟨h1, h2, by show (1 : Int) ≤ 1; omega, by show (1 : Int) ≤ 1099511627776; omega, by show (0 : Int) ≤ 0; omega, by show (0 : Int) ≤ 1099511627776; omega, by simp, rfl, rfl⟩
    exact ⟨rfl, rfl, rfl, rfl, hv 2 (by omega) (by omega), fun p hp => by simp at hp, by simp, rfl, rfl, rfl, hv 1 (by omega) (by omega), fun p hp => by simp at hp, by simp, fun p hp => by simp at hp, by simp, rfl, by simp⟩
end Go.Proofs.Ytpiejdjanhnbeaa

/- The functions, as limits of the evaluator: printed by a program. -/
set_option linter.unusedVariables false
namespace Go.Proofs.Ytpiejdjanhnbeaa
open Go Go.Sk

/-- slices.Clone[[]skirmish/api.Packet,skirmish/api.Packet] -/
noncomputable def chk_slices_Clone.f (b : Bool) (s : (List PacketT)) : Option (List PacketT) := callX Try.prog cfg0 26 [(.one (.chk b cPacket s))] [] ⟨[.one (.own cPacket)], 0⟩
end Go.Proofs.Ytpiejdjanhnbeaa

/- The functions' equations: printed by a program. -/
set_option linter.unusedVariables false
set_option maxRecDepth 100000
set_option maxHeartbeats 4000000
namespace Go.Proofs.Ytpiejdjanhnbeaa
open Go Go.Sk

theorem chk_slices_Clone.f_eq (b : Bool) (s : (List PacketT)) : chk_slices_Clone.f b s = (bif (b) then some ([]) else (bif (Decidable.decide ((0 + List.length s) * 120 ≤ 140737488355328)) then some ([] ++ s) else none)) := (lim_step _ _ _ _ _ _).trans (by kernel_rfl)
end Go.Proofs.Ytpiejdjanhnbeaa

/- strings.Builder: copyCheck and String, with exact worlds. -/
set_option linter.unusedVariables false
namespace Go.Proofs.Ytpiejdjanhnbeaa
open Go Go.Sk Go.Proofs

theorem size76 : (Try.prog.info? 76).map (·.size) = some 2 := by kernel_rfl

set_option maxHeartbeats 1000000 in
set_option maxRecDepth 100000 in
theorem copyCheck_used (b : Nat) (w : World) (h0 : w.cell? ⟨b, 0, none⟩ = some (.pointer (some ⟨b, 0, none⟩))) :
    Calls Try.prog 53 #[.pointer (some ⟨b, 0, none⟩)] w fun e w' => e = .returned (.tuple #[]) ∧ w' = w := by
  obtain ⟨j, hj, hjs⟩ := Option.map_eq_some_iff.1 size76
  go_enter Try.func53, Try.ntmps53
  go_wp2
  rw [Lib.run_neq_ptr_same w _ Try.underlying73 hj]
  go_wp2
  go_end0
  exact ⟨rfl, rfl⟩

set_option maxHeartbeats 1000000 in
set_option maxRecDepth 100000 in
theorem copyCheck_fresh (b : Nat) (w : World) (h0 : w.cell? ⟨b, 0, none⟩ = some (.pointer none)) (hsh : w.shape? b = some (76, 2)) (hfz : w.frozen? ⟨b, 0, none⟩ = false) :
    Calls Try.prog 53 #[.pointer (some ⟨b, 0, none⟩)] w fun e w' => e = .returned (.tuple #[]) ∧ w' = w.setCell ⟨b, 0, none⟩ (.pointer (some ⟨b, 0, none⟩)) := by
  obtain ⟨j, hj, hjs⟩ := Option.map_eq_some_iff.1 size76
  go_enter Try.func53, Try.ntmps53
  go_wp2
  rw [Lib.run_to_unsafe w ⟨b, 0, none⟩ Try.underlying73 Try.underlying117 hj (by rw [hjs]; decide) hsh (Nat.zero_lt_succ 1)]
  simp only [Result.andThen]
  rw [Oper.upon_value]
  go_wp2
  rw [run_callFunc_extern Try.func71 (by kernel_rfl) (by kernel_rfl) (by kernel_rfl) (e := Extern.AbiNoEscape.same) (by kernel_rfl)]
  rw [Lib.run_noEscape]
  simp only [Result.andThen]
  rw [Oper.upon_value]
  go_wp2
  rw [Lib.run_from_unsafe w ⟨b, 0, none⟩ Try.underlying117 Try.underlying73 hj hsh (by kernel_rfl)]
  simp only [Result.andThen]
  rw [Oper.upon_value]
  go_wp2
  go_end0
  exact ⟨rfl, rfl⟩

set_option maxHeartbeats 1000000 in
set_option maxRecDepth 100000 in
theorem string_told (xs : List Int) (b g o cap : Nat) (cur : Array Value) (w : World) (h0 : 0 < xs.length) (h63 : xs.length ≤ 9223372036854775807) (hc1 : w.cell? ⟨b, 1, none⟩ = some (.slice (some ⟨g, o, none⟩) xs.length cap)) (hg : w.heap[g]? = some (.cells cur 5 (0, 0)))
    (hcap : xs.length ≤ cap) (hsz : o + cap ≤ cur.size) (hcell : ∀ j x, xs[j]? = some x → w.cell? ((⟨g, o, none⟩ : Addr).add j) = some (.int .u8 x)) :
    Calls Try.prog 41 #[.pointer (some ⟨b, 0, none⟩)] w fun e w' => e = .returned (.string (bytesOf xs)) ∧ w' = w.drew.freeze ⟨g, o, none⟩ xs.length := by
  have c1 : w.drew.cell? ⟨b, 1, none⟩ = some (.slice (some ⟨g, o, none⟩) xs.length cap) := hc1
  have hSD : (Builtin.unsafeSliceData_ #[74] 104 #[.slice (some ⟨g, o, none⟩) xs.length cap]).run Try.prog w.drew = .ok (.pointer (some ⟨g, o, none⟩)) w.drew :=
    Lib.run_unsafeSliceData_row _ _ _ _ _ _ (by omega)
  have hUS : (Builtin.unsafeString_ #[104, 3] 9 #[.pointer (some ⟨g, o, none⟩), .int .i64 xs.length]).run Try.prog w.drew = .ok (.string (bytesOf xs)) (w.drew.freeze ⟨g, o, none⟩ xs.length) :=
    run_unsafeString_rowI w.drew 104 3 9 5 Try.underlying104 (by kernel_rfl) g o cur.size (by have hg' : w.drew.heap[g]? = some (.cells cur 5 (0, 0)) := hg; simp [World.shape?, hg']) xs (by intro e; rw [e] at h0; cases h0) (by omega) h63 fun j x hx => hcell j x hx
  clear hcell hcap hsz h63 h0
  have mixed : Try.prog.follows Departure.mixedOrders = true := by kernel_rfl
  go_enter Try.func41, Try.ntmps41
  go_wp2
  go_region_o
  all_goals (go_wp2; go_ret; exact ⟨rfl, rfl⟩)
end Go.Proofs.Ytpiejdjanhnbeaa

/-
  DERIVED: THE SHELF's CONTRACTS AT THIS DUMP, IN PLAIN WORDS (tools/lay-plain.mjs out of 'TryShelf.lean', which tools/lay-shelf.mjs wrote): THE SAME DECLARATIONS UNDER THE SAME NAMES: 'import', 'namespace', 'open', 'def', 'theorem' AND NOTHING ELSE: no command of the shelf's: FOR A HAND-IN. Each laying: the table of numbers ('.._ren') and one theorem, a field a fact of the dump's own or the kernel's comparison; each contract: ONE APPLICATION.
-/
namespace Go.Proofs
open Go.Shelf
def Try.keysA_ren : Go.Shelf.Ren := ⟨fun | 7 => 32 | 10 => 51 | n => n, fun | 23 => 64 | 26 => 3 | 3 => 30 | 28 => 68 | 0 => 0 | 27 => 67 | 33 => 100 | 4 => 4 | n => n, fun | n => n⟩
theorem Try.keysA : Go.Proofs.SlLaysZI.n7 Try.prog Try.keysA_ren := {
  mixed := by kernel_rfl
  f7 := ⟨Try.f32.name, by decide, Try.func32.trans (congrArg some (by kernel_rfl))⟩
  f10 := ⟨Try.f51.name, by decide, Try.func51.trans (congrArg some (by kernel_rfl))⟩
  t0 := Try.underlying0
  a0 := Try.isAgg0
  z0 := Try.sizeOf0
  v0 := Try.zeroValue0
  t4 := Try.underlying4
  a4 := Try.isAgg4
  z4 := Try.sizeOf4
  v4 := Try.zeroValue4
  t23 := Try.underlying64
  a23 := Try.isAgg64
  z23 := Try.sizeOf64
  v23 := Try.zeroValue64
  t26 := Try.underlying3
  a26 := Try.isAgg3
  z26 := Try.sizeOf3
  v26 := Try.zeroValue3
  t27 := Try.underlying67
  a27 := Try.isAgg67
  z27 := Try.sizeOf67
  v27 := Try.zeroValue67
  t28 := Try.underlying68
  a28 := Try.isAgg68
  z28 := Try.sizeOf68
  v28 := Try.zeroValue68
  t33 := Try.underlying100
  a33 := Try.isAgg100
  z33 := Try.sizeOf100
  v33 := Try.zeroValue100 }
def Try.sortedA_ren : Go.Shelf.Ren := ⟨fun | 6 => 31 | 8 => 49 | 9 => 50 | 11 => 59 | 13 => 61 | 12 => 60 | 23 => 89 | 24 => 90 | 14 => 80 | 15 => 81 | 16 => 82 | 17 => 83 | 18 => 84 | 19 => 85 | 20 => 86 | 21 => 87 | 22 => 88 | 25 => 100 | 26 => 101 | 27 => 102 | 28 => 103 | 29 => 104 | 30 => 105 | 31 => 108 | n => n, fun | 26 => 3 | 28 => 68 | 24 => 52 | 0 => 0 | 3 => 3 | 37 => 102 | 48 => 136 | 50 => 25 | 4 => 4 | 40 => 129 | 39 => 128 | 45 => 133 | 5 => 5 | 9 => 9 | 51 => 144 | 55 => 87 | 57 => 149 | 58 => 150 | 33 => 100 | n => n, fun | n => n⟩
theorem Try.sortedA : Go.Proofs.SlLaysZI.n6 Try.prog Try.sortedA_ren := {
  mixed := by kernel_rfl
  f6 := ⟨Try.f31.name, by decide, Try.func31.trans (congrArg some (by kernel_rfl))⟩
  f8 := ⟨Try.f49.name, by decide, Try.func49.trans (congrArg some (by kernel_rfl))⟩
  f11 := ⟨Try.f59.name, by decide, Try.func59.trans (congrArg some (by kernel_rfl))⟩
  t0 := Try.underlying0
  a0 := Try.isAgg0
  z0 := Try.sizeOf0
  v0 := Try.zeroValue0
  t24 := Try.underlying52
  a24 := Try.isAgg52
  z24 := Try.sizeOf52
  v24 := Try.zeroValue52
  t26 := Try.underlying3
  a26 := Try.isAgg3
  z26 := Try.sizeOf3
  v26 := Try.zeroValue3
  t28 := Try.underlying68
  a28 := Try.isAgg68
  z28 := Try.sizeOf68
  v28 := Try.zeroValue68
  i26 := by kernel_rfl }
def Try.sortA_ren : Go.Shelf.Ren := ⟨fun | 5 => 50 | 8 => 61 | 7 => 60 | 19 => 89 | 20 => 90 | 10 => 80 | 11 => 81 | 12 => 82 | 13 => 83 | 14 => 84 | 15 => 85 | 16 => 86 | 17 => 87 | 18 => 88 | 30 => 100 | 31 => 101 | 32 => 102 | 33 => 103 | 34 => 104 | 35 => 105 | 40 => 108 | n => n, fun | 23 => 52 | 25 => 3 | 3 => 3 | 32 => 102 | 22 => 52 | 0 => 0 | 44 => 136 | 46 => 25 | 4 => 4 | 36 => 129 | 35 => 128 | 41 => 133 | 5 => 5 | 9 => 9 | 53 => 144 | 57 => 87 | 63 => 149 | 64 => 150 | n => n, fun | n => n⟩
theorem Try.sortA : Go.Proofs.SlLaysM.n5 Try.prog Try.sortA_ren := {
  mixed := by kernel_rfl
  f5 := ⟨Try.f50.name, by decide, Try.func50.trans (congrArg some (by kernel_rfl))⟩
  f7 := ⟨Try.f60.name, by decide, Try.func60.trans (congrArg some (by kernel_rfl))⟩
  f8 := Try.func61.trans (congrArg some (by kernel_rfl))
  f10 := ⟨Try.f80.name, by decide, Try.func80.trans (congrArg some (by kernel_rfl))⟩
  f11 := ⟨Try.f81.name, by decide, Try.func81.trans (congrArg some (by kernel_rfl))⟩
  f12 := ⟨Try.f82.name, by decide, Try.func82.trans (congrArg some (by kernel_rfl))⟩
  f13 := ⟨Try.f83.name, by decide, Try.func83.trans (congrArg some (by kernel_rfl))⟩
  f14 := ⟨Try.f84.name, by decide, Try.func84.trans (congrArg some (by kernel_rfl))⟩
  f15 := ⟨Try.f85.name, by decide, Try.func85.trans (congrArg some (by kernel_rfl))⟩
  f16 := ⟨Try.f86.name, by decide, Try.func86.trans (congrArg some (by kernel_rfl))⟩
  f17 := ⟨Try.f87.name, by decide, Try.func87.trans (congrArg some (by kernel_rfl))⟩
  f18 := ⟨Try.f88.name, by decide, Try.func88.trans (congrArg some (by kernel_rfl))⟩
  f19 := Try.func89.trans (congrArg some (by kernel_rfl))
  f20 := Try.func90.trans (congrArg some (by kernel_rfl))
  f30 := ⟨Try.f100.name, by decide, Try.func100.trans (congrArg some (by kernel_rfl))⟩
  f31 := Try.func101.trans (congrArg some (by kernel_rfl))
  f32 := Try.func102.trans (congrArg some (by kernel_rfl))
  f33 := ⟨Try.f103.name, by decide, Try.func103.trans (congrArg some (by kernel_rfl))⟩
  f34 := ⟨Try.f104.name, by decide, Try.func104.trans (congrArg some (by kernel_rfl))⟩
  f35 := ⟨Try.f105.name, by decide, Try.func105.trans (congrArg some (by kernel_rfl))⟩
  f40 := ⟨Try.f108.name, by decide, Try.func108.trans (congrArg some (by kernel_rfl))⟩
  t0 := Try.underlying0
  a0 := Try.isAgg0
  z0 := Try.sizeOf0
  v0 := Try.zeroValue0
  t3 := Try.underlying3
  a3 := Try.isAgg3
  z3 := Try.sizeOf3
  v3 := Try.zeroValue3
  t4 := Try.underlying4
  a4 := Try.isAgg4
  z4 := Try.sizeOf4
  v4 := Try.zeroValue4
  t5 := Try.underlying5
  a5 := Try.isAgg5
  z5 := Try.sizeOf5
  v5 := Try.zeroValue5
  t9 := Try.underlying9
  a9 := Try.isAgg9
  z9 := Try.sizeOf9
  v9 := Try.zeroValue9
  t22 := Try.underlying52
  a22 := Try.isAgg52
  z22 := Try.sizeOf52
  v22 := Try.zeroValue52
  t23 := Try.underlying52
  a23 := Try.isAgg52
  z23 := Try.sizeOf52
  v23 := Try.zeroValue52
  t25 := Try.underlying3
  a25 := Try.isAgg3
  z25 := Try.sizeOf3
  v25 := Try.zeroValue3
  t32 := Try.underlying102
  a32 := Try.isAgg102
  z32 := Try.sizeOf102
  v32 := Try.zeroValue102
  t35 := Try.underlying128
  a35 := Try.isAgg128
  z35 := Try.sizeOf128
  v35 := Try.zeroValue128
  t36 := Try.underlying129
  a36 := Try.isAgg129
  z36 := Try.sizeOf129
  v36 := Try.zeroValue129
  t41 := Try.underlying133
  a41 := Try.isAgg133
  z41 := Try.sizeOf133
  v41 := Try.zeroValue133
  t44 := Try.underlying136
  a44 := Try.isAgg136
  z44 := Try.sizeOf136
  v44 := Try.zeroValue136
  t46 := Try.underlying25
  a46 := Try.isAgg25
  z46 := Try.sizeOf25
  v46 := Try.zeroValue25
  t53 := Try.underlying144
  a53 := Try.isAgg144
  z53 := Try.sizeOf144
  v53 := Try.zeroValue144
  t57 := Try.underlying87
  a57 := Try.isAgg87
  z57 := Try.sizeOf87
  v57 := Try.zeroValue87
  t63 := Try.underlying149
  a63 := Try.isAgg149
  z63 := Try.sizeOf149
  v63 := Try.zeroValue149
  t64 := Try.underlying150
  a64 := Try.isAgg150
  z64 := Try.sizeOf150
  v64 := Try.zeroValue150 }
end Go.Proofs

/- slices.Sorted and maps.Keys: what is told of them is so. -/
set_option linter.unusedSimpArgs false
set_option linter.unusedVariables false
namespace Go.Proofs.Ytpiejdjanhnbeaa
open Go Go.RowKit Go.Maps Go.Sort Go.Shelf Go.Proofs

theorem sortsA (m : Nat) : AnyZI.SortsIn Try.prog Try.sortedA_ren Fence.wide m :=
  ⟨fun blk off cap ss W hH hblk hsz => callsIn_wide.2 (AnyM.slices_Sort_int Try.sortA blk off cap ss W hH hblk hsz),
   fun p cap W => callsIn_wide.2 (AnyM.slices_Sort_int_none Try.sortA p cap W)⟩

theorem sortsKeys : Go.Sk.SortsKeys Try.prog 31 51 3 3 := by
  intro B r n D R w hc hown hb
  have hseq : SeqGives Fence.wide 2 Try.prog 51 #[.pointer (some ⟨B, 0, none⟩)] encZ (fun ss => ss.Perm (intKeys D)) (Maps.size D) w :=
    AnyZI.keys_gives (ρ := Try.keysA_ren) { Try.keysA with } Fence.wide _ trivial rfl (by omega) B r n D w (World.block_lt_of_cell? w _ hc) hc hown
  have cS := AnyZI.sorted_in Try.sortedA Fence.wide 5 trivial trivial trivial trivial rfl (by omega) (sortsA _) (enters_of Try.func50 (by kernel_rfl) rfl) 51 #[.pointer (some ⟨B, 0, none⟩)] trivial (enters_of Try.func51 (by kernel_rfl) rfl) _ _ (by unfold maxLen; omega) hb _ hseq
  exact callsIn_wide.1 cS

theorem makesKeys : Go.Sk.MakerFn Try.prog 32 51 := by
  refine ⟨⟨_, _, Try.func32, rfl, by kernel_rfl⟩, 64, fun u w hu => ?_⟩
  refine (callsIn_wide (n := 5)).1 (callsIn_of_wp Try.func32 rfl trivial ?_ rfl)
  simp only [Try.ntmps32, List.size_toArray, List.length_cons, List.length_nil, Nat.reduceAdd, Nat.reduceSub, Array.replicate_succ, Array.replicate_zero, List.push_toArray, List.append_toArray, List.nil_append, List.cons_append]
  gi_wp2
  go_ret
  exact ⟨rfl, rfl⟩
end Go.Proofs.Ytpiejdjanhnbeaa

/- What is told of functions is so. -/
set_option maxHeartbeats 4000000
set_option maxRecDepth 100000
namespace Go.Proofs.Ytpiejdjanhnbeaa
open Go Go.Sk
theorem apart_fns (g : FuncId) (h : refB g = .apart) : ApartFn Try.prog g := by
  unfold refB at h
  split at h <;> cases h
theorem maker_fns (g g' : FuncId) (h : refB g = .maker g') : MakerFn Try.prog g g' := by
  unfold refB at h
  split at h <;> first | (cases h; done) | skip
  cases h
  exact makesKeys
theorem prim_ok0 : PrimOk Try.prog cfg0 := ⟨fun g vs m ρ x h => (by cases h), apart_fns, maker_fns⟩
theorem clone_out {α : Type} (b : Bool) (xs : List α) (k : Nat) (hb : b = true → xs = []) (hg : xs.length * k ≤ 140737488355328) : (bif b then some [] else (bif decide ((0 + xs.length) * k ≤ 140737488355328) then some ([] ++ xs) else none)) = some xs := by
  cases b with
  | true => rw [hb rfl]; rfl
  | false => rw [Nat.zero_add, decide_eq_true hg]; rfl
theorem prim_ok : PrimOk Try.prog cfg := by
  refine ⟨fun g vs m ρ x h => ?_, apart_fns, maker_fns⟩
  unfold cfg at h
  simp only [primB] at h
  split at h
  · refine ⟨clonePrim_spec (fun b xs hb hg => ?_) h, _, _, Try.func26, rfl, by kernel_rfl⟩
    have e : callF Try.prog cfg0 26 [.one (.chk b cPacket xs)] [] ⟨[.one (.own cPacket)], 0⟩ = some xs := (chk_slices_Clone.f_eq b xs).trans (clone_out b xs 120 hb hg)
    exact (callF_sound (C := cfg0) (by kernel_rfl) (by kernel_rfl) prim_ok0 e).1
  · exact ⟨intKeysPrim_spec (k := 3) (T := 3) Try.underlying3 sortsKeys h, _, _, Try.func31, rfl, by kernel_rfl⟩
  · exact ⟨selfPrim_spec copyCheck_used copyCheck_fresh (by kernel_rfl) (fun xs => by kernel_rfl) h, _, _, Try.func53, rfl, by kernel_rfl⟩
  · exact ⟨textPrim_spec (fun xs b gg o cap cur w h0 h1 h2 h3 h4 h5 h6 => string_told xs b gg o cap cur w h0 h1 h2 h3 h4 h5 h6) h, _, _, Try.func41, rfl, by kernel_rfl⟩
  · cases h
end Go.Proofs.Ytpiejdjanhnbeaa
