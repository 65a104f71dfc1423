/- What the functions of the layer come to: Blame is as the reference's; the statements on Blame. -/
import Derived.Test.YtgamdchlgikaiaaP3
set_option linter.unusedVariables false
set_option linter.unusedSimpArgs false
namespace Go.Proofs.Ytgamdchlgikaiaa
open Go Go.Sk

theorem firstM_big {l : List Mk} (hl : l.length ≤ big) : (firstM l).length ≤ big := Nat.le_trans (firstM_len l) hl
def digs (l : List Mk) : List Int := (firstM l).map fun m => m.2.2
def right (l : List Mk) : Int := (best (fun d => (digs l).countP (· == d)) (digs l)).2
def blameM (l : List Mk) : List Int := ((firstM l).filter fun m => !(m.2.2 == right l)).map (·.1)

theorem blame_eq (l : List Mk) (hl : l.length ≤ big) : desync_Blame.f l = some (blameM l) := by
  obtain ⟨o1, o2, h1, h2, h3, h4, h5⟩ := blame_first l hl
  have hR := firstM_big hl
  have hps : ((firstM l).map (·.1)).length ≤ big := by simpa using hR
  obtain ⟨o3, h6, h7⟩ := blame_counts l h1 ((firstM l).map (·.1)) hps
  have hdig : ((firstM l).map (·.1)).map (digOf l) = digs l := by
    rw [List.map_map]
    exact List.map_congr_left fun m hm => by simp [digOf, digP_first hm]
  have hcnt : (fun d => cnt d ((firstM l).map (·.1)) l) = fun d => (digs l).countP (· == d) := by
    funext d
    unfold cnt
    rw [← hdig, List.countP_map (p := (· == d))]
    rfl
  rw [h5, desync_Blame.j0_eq, lt_false (Nat.le_refl _), cond_false, sort_eq o2 (by unfold big at hl; omega), Option.bind_some, peers_sorted h2 h3, h7, blame_best l h1 _ hps h6, hdig, hcnt, delete_eq l h1 _ hps, Option.bind_some]
  simp only
  congr 1
  rw [List.filter_map]
  unfold blameM
  congr 1
  exact List.filter_congr fun m hm => by simp [digOf, digP_first hm, right]

theorem refblame_eq (l : List Mk) (hl : l.length ≤ big) : ref53_Blame.f l = some (blameM l) := by
  have hR := firstM_big hl
  have hR' := hR
  unfold big at hR'
  rw [ref53_Blame.f_eq, first_eq l hl, Option.bind_some]
  generalize hRR : firstM l = R at *
  have inner : ∀ (most rt : Int) (i : Nat) (hi : i < R.length), ref53_Blame.j1 most rt i 0 0 R = (if ((((R.map fun m => m.2.2).countP (· == R[i].2.2) : Nat) : Int) > most) then ref53_Blame.j0 (((R.map fun m => m.2.2).countP (· == R[i].2.2) : Nat) : Int) R[i].2.2 ((i + 1 : Nat) : Int) R else ref53_Blame.j0 most rt ((i + 1 : Nat) : Int) R) := by
    intro most rt i hi
    have key : ∀ m k, k + m = R.length → ref53_Blame.j1 most rt i (((R.take k).countP (fun m => m.2.2 == R[i].2.2) : Nat) : Int) k R = (if ((((R.map fun m => m.2.2).countP (· == R[i].2.2) : Nat) : Int) > most) then ref53_Blame.j0 (((R.map fun m => m.2.2).countP (· == R[i].2.2) : Nat) : Int) R[i].2.2 ((i + 1 : Nat) : Int) R else ref53_Blame.j0 most rt ((i + 1 : Nat) : Int) R) := by
      intro m
      induction m with
      | zero =>
        intro k hk
        rw [ref53_Blame.j1_eq, lt_false (by omega), cond_false, show k = R.length by omega, List.take_length]
        simp (disch := omega) only [← Bool.decide_and, cond_dec, if_pos, Int.toNat_natCast, List.getElem?_eq_getElem hi, Option.bind_some, ref53_Blame.j4_eq, wr_succ hi, List.countP_map]
        rfl
      | succ m ih =>
        intro k hk
        have hlt : k < R.length := by omega
        have hc : (R.take (k + 1)).countP (fun m => m.2.2 == R[i].2.2) = (R.take k).countP (fun m => m.2.2 == R[i].2.2) + if R[k].2.2 == R[i].2.2 then 1 else 0 := by
          rw [List.take_succ_eq_append_getElem hlt, List.countP_append]
          simp [List.countP_cons]
        have hle : (R.take k).countP (fun m => m.2.2 == R[i].2.2) ≤ k := Nat.le_trans List.countP_le_length (by simp; omega)
        rw [ref53_Blame.j1_eq]
        simp (disch := omega) only [← Bool.decide_and, cond_dec, if_pos, Int.toNat_natCast, List.getElem?_eq_getElem hi, List.getElem?_eq_getElem hlt, Option.bind_some, ref53_Blame.j3_eq, wr_succ hlt]
        cases h : (R[k].2.2 == R[i].2.2) with
        | true =>
          rw [cond_true, wr_in (by omega) (by omega)]
          rw [← ih (k + 1) (by omega), hc, h]
          rfl
        | false =>
          rw [cond_false, ← ih (k + 1) (by omega), hc, h]
          rfl
    have := key R.length 0 (by omega)
    simpa using this
  rw [loopE R (fun (q : Int × Int) m => some (.inr (bestS (fun d => (R.map fun m => m.2.2).countP (· == d)) q m.2.2))) (fun q => ref53_Blame.j2 q.2 0 R []) (fun q k => ref53_Blame.j0 q.1 q.2 k R) (fun q k hk => by
    rw [ref53_Blame.j0_eq, lt_true hk, cond_true, inner _ _ k hk]
    simp only [Option.bind_some, bestS]
    split <;> rfl) (fun q => by rw [ref53_Blame.j0_eq, lt_false (Nat.le_refl _)]; rfl) ((0, 0) : Int × Int), foldE_foldl]
  have hb : (R.foldl (fun (q : Int × Int) m => bestS (fun d => (R.map fun m => m.2.2).countP (· == d)) q m.2.2) (0, 0)).2 = right l := by
    unfold right best digs
    rw [hRR, List.foldl_map]
  rw [hb]
  rw [loopE R (fun acc m => bif !(m.2.2 == right l) then (bif decide ((acc.length + 1) * 8 ≤ 140737488355328) then some (.inr (acc ++ [m.1])) else none) else some (.inr acc)) (fun q => some q) (fun q k => ref53_Blame.j2 (right l) k R q) (fun q k hk => by
    rw [ref53_Blame.j2_eq]
    simp (disch := omega) only [← Bool.decide_and, cond_dec, if_pos, Int.toNat_natCast, List.getElem?_eq_getElem hk, Option.bind_some, ref53_Blame.j5_eq, wr_succ hk, List.length_singleton, bne]
    cases (R[k].2.2 == right l)
    · simp only [Bool.not_false, cond_true]
      by_cases h : (q.length + 1) * 8 ≤ 140737488355328
      · rw [if_pos h, if_pos h]; rfl
      · rw [if_neg h, if_neg h]; rfl
    · rfl) (fun q => by rw [ref53_Blame.j2_eq, lt_false (Nat.le_refl _)]; rfl) []]
  have := foldE_filter (fun m : Mk => !(m.2.2 == right l)) (·.1) 8 140737488355328 (fun q => some q) R [] (by simp; omega)
  rw [this]
  simp [blameM, hRR]

theorem blameM_big {l : List Mk} (hl : l.length ≤ big) : (blameM l).length ≤ big := by
  unfold blameM
  rw [List.length_map]
  exact Nat.le_trans (List.length_filter_le _ _) (firstM_big hl)

theorem blames (hal : law53_alive.f = some true) (l : List Mk) : law53_DesyncBlames.f l = some true := by
  rw [law53_DesyncBlames.f_eq]
  by_cases h1 : l.length > 200
  · rw [show decide (((l.length : Nat) : Int) > 200) = true by simp; omega, cond_true, hal]; rfl
  · rw [show decide (((l.length : Nat) : Int) > 200) = false by simp; omega, cond_false]
    have hl : l.length ≤ big := by unfold big; omega
    have hb := blameM_big hl
    unfold big at hb
    rw [blame_eq l hl, refblame_eq l hl]
    simp only [Option.bind_some, bne_self_eq_false, cond_false]
    rw [loopE (blameM l) (fun (b : Unit) x => some (.inr b)) (fun _ => some true) (fun _ k => law53_DesyncBlames.j0 (blameM l).length k (blameM l) (blameM l)) (fun b k hk => by
      rw [law53_DesyncBlames.j0_eq]
      simp (disch := omega) only [← Bool.decide_and, cond_dec, if_pos, Int.toNat_natCast, List.getElem?_eq_getElem hk, Option.bind_some, wr_succ hk, bne_self_eq_false, cond_false]) (fun b => by rw [law53_DesyncBlames.j0_eq, lt_false (Nat.le_refl _), cond_false, hal]; rfl) (), foldE_foldl]
end Go.Proofs.Ytgamdchlgikaiaa
