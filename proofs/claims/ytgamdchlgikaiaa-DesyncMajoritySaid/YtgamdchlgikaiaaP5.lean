/- The statement on the majority. -/
import Derived.Test.YtgamdchlgikaiaaP4
set_option linter.unusedVariables false
set_option linter.unusedSimpArgs false
namespace Go.Proofs.Ytgamdchlgikaiaa
open Go Go.Sk

theorem best_spec (c : Int → Nat) (hc : ∀ ds : List Int, True) : ∀ (ds : List Int) (q : Int × Int), 0 ≤ q.1 → (∀ d ∈ ds, 0 < c d) →
    let r := ds.foldl (bestS c) q
    (r = q ∨ (r.2 ∈ ds ∧ r.1 = (c r.2 : Nat))) ∧ q.1 ≤ r.1 ∧ ∀ d ∈ ds, ((c d : Nat) : Int) ≤ r.1
  | [], q, _, _ => ⟨.inl rfl, Int.le_refl _, by simp⟩
  | d :: r, q, h0, h => by
    simp only [List.foldl_cons]
    have hd := h d (by simp)
    have ih := best_spec c hc r (bestS c q d) (by
      unfold bestS
      split
      · show (0 : Int) ≤ ((c d : Nat) : Int); omega
      · exact h0) fun x hx => h x (by simp [hx])
    simp only at ih
    obtain ⟨h1, h2, h3⟩ := ih
    have hs : (bestS c q d = q ∧ ((c d : Nat) : Int) ≤ q.1) ∨ (bestS c q d = (((c d : Nat) : Int), d) ∧ ((c d : Nat) : Int) > q.1) := by
      unfold bestS
      by_cases h : ((c d : Nat) : Int) > q.1
      · right; rw [if_pos h]; exact ⟨rfl, h⟩
      · left; rw [if_neg h]; exact ⟨rfl, by omega⟩
    refine ⟨?_, ?_, fun x hx => ?_⟩
    · rcases h1 with h1 | ⟨h1, h4⟩
      · rcases hs with ⟨hs, _⟩ | ⟨hs, _⟩
        · left; rw [h1, hs]
        · right; rw [h1, hs]; exact ⟨by simp, rfl⟩
      · right; exact ⟨by simp [h1], h4⟩
    · rcases hs with ⟨hs, _⟩ | ⟨hs, hg⟩
      · have e : (bestS c q d).1 = q.1 := by rw [hs]
        rw [e] at h2; exact h2
      · have e : (bestS c q d).1 = (c d : Nat) := by rw [hs]
        rw [e] at h2; omega
    · rcases List.mem_cons.1 hx with rfl | hx
      · rcases hs with ⟨hs, hg⟩ | ⟨hs, hg⟩
        · have e : (bestS c q x).1 = q.1 := by rw [hs]
          rw [e] at h2; omega
        · have e : (bestS c q x).1 = (c x : Nat) := by rw [hs]
          rw [e] at h2; omega
      · exact h3 x hx

/-- where there are marks at all, the right digest is one of them, and none is had by more -/
theorem right_spec (l : List Mk) (hne : firstM l ≠ []) : right l ∈ digs l ∧ ∀ d, (digs l).countP (· == d) ≤ (digs l).countP (· == right l) := by
  have hpos : ∀ d ∈ digs l, 0 < (digs l).countP (· == d) := fun d hd => List.countP_pos_iff.2 ⟨d, hd, by simp⟩
  have h := best_spec (fun d => (digs l).countP (· == d)) (fun _ => trivial) (digs l) (0, 0) (by simp) hpos
  simp only at h
  obtain ⟨h1, h2, h3⟩ := h
  have hne' : digs l ≠ [] := by unfold digs; simpa using hne
  obtain ⟨x, r, hx⟩ := List.exists_cons_of_ne_nil hne'
  have hxm : x ∈ digs l := by rw [hx]; simp
  rcases h1 with h1 | ⟨h1, h4⟩
  · have h5 := h3 x hxm
    have h6 := hpos x hxm
    rw [h1] at h5
    simp only at h5
    omega
  · refine ⟨h1, fun d => ?_⟩
    by_cases hd : d ∈ digs l
    · have := h3 d hd
      show _ ≤ (digs l).countP (· == (best _ _).2)
      unfold best
      omega
    · rw [List.countP_eq_zero.2 fun y hy => by simp; exact fun e => hd (e ▸ hy)]
      omega

theorem majority_inner (R : List Mk) (B : List Int) (hR : R.length ≤ big) (hB : B.length ≤ big) (i : Nat) (hi : i < R.length) (o2 o3 : List Mk) (h2 : o2.length ≤ big) (h3 : o3.length ≤ big) :
    law53_DesyncMajority.j1 i false R.length i B.length 0 R B o2 o3 = bif B.any (· == R[i].1) then law53_DesyncMajority.j0 R.length ((i + 1 : Nat) : Int) R B o2 (o3 ++ [R[i]]) else law53_DesyncMajority.j0 R.length ((i + 1 : Nat) : Int) R B (o2 ++ [R[i]]) o3 := by
  unfold big at hR hB h2 h3
  have key : ∀ m k (b : Bool), k + m = B.length → law53_DesyncMajority.j1 i b R.length i B.length k R B o2 o3 = bif b || (B.drop k).any (· == R[i].1) then law53_DesyncMajority.j0 R.length ((i + 1 : Nat) : Int) R B o2 (o3 ++ [R[i]]) else law53_DesyncMajority.j0 R.length ((i + 1 : Nat) : Int) R B (o2 ++ [R[i]]) o3 := by
    intro m
    induction m with
    | zero =>
      intro k b hk
      rw [law53_DesyncMajority.j1_eq, lt_false (by omega), cond_false, List.drop_of_length_le (by omega)]
      simp (disch := omega) only [← Bool.decide_and, cond_dec, if_pos, Int.toNat_natCast, List.getElem?_eq_getElem hi, Option.bind_some, law53_DesyncMajority.j4_eq, wr_succ hi, List.length_singleton, List.any_nil, Bool.or_false]
    | succ m ih =>
      intro k b hk
      have hlt : k < B.length := by omega
      rw [law53_DesyncMajority.j1_eq, lt_true hlt, cond_true, List.drop_eq_getElem_cons hlt]
      cases b with
      | true =>
        simp only [cond_true, law53_DesyncMajority.j3_eq, wr_succ hlt (by omega), Bool.true_or]
        rw [ih (k + 1) true (by omega)]
        rfl
      | false =>
        simp only [cond_false, List.any_cons, Bool.false_or]
        simp (disch := omega) only [← Bool.decide_and, Bool.and_true, cond_dec, if_pos, Int.toNat_natCast, List.getElem?_eq_getElem hi, List.getElem?_eq_getElem hlt, Option.bind_some, cond_true, law53_DesyncMajority.j3_eq, wr_succ hlt]
        rw [ih (k + 1) _ (by omega)]
  have := key B.length 0 false (by omega)
  simpa using this

theorem blamed_any {l : List Mk} {m : Mk} (hm : m ∈ firstM l) : (blameM l).any (· == m.1) = !(m.2.2 == right l) := by
  have hF := firsts_of l
  cases h : (m.2.2 == right l) with
  | false =>
    simp only [Bool.not_false, List.any_eq_true]
    exact ⟨m.1, List.mem_map.2 ⟨m, List.mem_filter.2 ⟨hm, by simp [h]⟩, rfl⟩, by simp⟩
  | true =>
    simp only [Bool.not_true, List.any_eq_false]
    intro p hp he
    obtain ⟨x, hx, e⟩ := List.mem_map.1 hp
    obtain ⟨hx1, hx2⟩ := List.mem_filter.1 hx
    have e2 : x.1 = m.1 := by rw [e]; simpa using he
    have h1 := (hF.mem x).1 hx1
    have h2 := (hF.mem m).1 hm
    rw [e2, h2] at h1
    simp at h1
    rw [← h1, h] at hx2
    cases hx2

theorem majority (hal : law53_alive.f = some true) (l : List Mk) : law53_DesyncMajority.f l = some true := by
  rw [law53_DesyncMajority.f_eq]
  by_cases h1 : l.length > 200
  · rw [show decide (((l.length : Nat) : Int) > 200) = true by simp; omega, cond_true, hal]; rfl
  rw [show decide (((l.length : Nat) : Int) > 200) = false by simp; omega, cond_false]
  have hl : l.length ≤ big := by unfold big; omega
  have hR := firstM_big hl
  have hB := blameM_big hl
  have hR' := hR
  unfold big at hR'
  rw [first_eq l hl, blame_eq l hl, Option.bind_some, Option.bind_some]
  -- the two parts
  have hsum : ∀ (xs : List Mk), (xs.filter fun m => m.2.2 == right l).length + (xs.filter fun m => !(m.2.2 == right l)).length = xs.length := by
    intro xs
    induction xs with
    | nil => rfl
    | cons x r ih =>
      simp only [List.filter_cons]
      cases (x.2.2 == right l) <;> simp <;> omega
  have parts : ∀ m k, k + m = (firstM l).length → law53_DesyncMajority.j0 (firstM l).length k (firstM l) (blameM l) (((firstM l).take k).filter fun m => m.2.2 == right l) (((firstM l).take k).filter fun m => !(m.2.2 == right l)) =
      law53_DesyncMajority.j0 (firstM l).length (firstM l).length (firstM l) (blameM l) ((firstM l).filter fun m => m.2.2 == right l) ((firstM l).filter fun m => !(m.2.2 == right l)) := by
    intro m
    induction m with
    | zero => intro k hk; rw [show k = (firstM l).length by omega, List.take_length]
    | succ m ih =>
      intro k hk
      have hlt : k < (firstM l).length := by omega
      have hs := hsum ((firstM l).take k)
      simp only [List.length_take] at hs
      rw [law53_DesyncMajority.j0_eq, lt_true hlt, cond_true, majority_inner _ _ hR hB k hlt _ _ (Nat.le_trans (List.length_filter_le _ _) (Nat.le_trans (List.length_take_le _ _) (by unfold big; omega))) (Nat.le_trans (List.length_filter_le _ _) (Nat.le_trans (List.length_take_le _ _) (by unfold big; omega))), ← ih (k + 1) (by omega), blamed_any (List.getElem_mem hlt), List.take_succ_eq_append_getElem hlt, List.filter_append, List.filter_append]
      cases h : ((firstM l)[k].2.2 == right l) <;> simp [h]
  have h0 := parts (firstM l).length 0 (by omega)
  simp only [List.take_zero, List.filter_nil] at h0
  rw [show ((0 : Nat) : Int) = 0 from rfl] at h0
  rw [h0, law53_DesyncMajority.j0_eq, lt_false (Nat.le_refl _), cond_false]
  have hbl : (blameM l).length = ((firstM l).filter fun m => !(m.2.2 == right l)).length := by simp [blameM]
  rw [hbl, show (((((firstM l).filter fun m => !(m.2.2 == right l)).length : Nat) : Int) != ((((firstM l).filter fun m => !(m.2.2 == right l)).length : Nat) : Int)) = false by simp, cond_false]
  generalize hW : (firstM l).filter (fun m => !(m.2.2 == right l)) = W at *
  generalize hG : (firstM l).filter (fun m => m.2.2 == right l) = G at *
  have hGd : ∀ m ∈ G, m.2.2 = right l := fun m hm => by rw [← hG] at hm; simpa using (List.mem_filter.1 hm).2
  have hWd : ∀ m ∈ W, m.2.2 ≠ right l := fun m hm => by rw [← hW] at hm; simpa using (List.mem_filter.1 hm).2
  have hGl : G.length = (digs l).countP (· == right l) := by
    rw [← hG]; unfold digs; rw [List.countP_map, List.countP_eq_length_filter]; rfl
  have hWc : ∀ d, W.countP (fun m => m.2.2 == d) ≤ (digs l).countP (· == d) := fun d => by
    rw [← hW]; unfold digs; rw [List.countP_map]
    exact List.Sublist.countP_le (List.filter_sublist)
  have hGb : G.length ≤ 1000000 := by rw [← hG]; exact Nat.le_trans (List.length_filter_le _ _) hR'
  have hWb : W.length ≤ 1000000 := by rw [← hW]; exact Nat.le_trans (List.length_filter_le _ _) hR'
  have hne : firstM l ≠ [] → 0 < G.length := fun h => by
    rw [hGl]
    exact List.countP_pos_iff.2 ⟨right l, (right_spec l h).1, by simp⟩
  have hWG : ∀ d, W ≠ [] → W.countP (fun m => m.2.2 == d) ≤ G.length := fun d hw => by
    have h : firstM l ≠ [] := fun e => hw (by rw [← hW, e]; rfl)
    rw [hGl]
    exact Nat.le_trans (hWc d) ((right_spec l h).2 d)
  have last : law53_DesyncMajority.j6 W.length 0 G W = some true := by
    rw [loopE W (fun (b : Unit) x => some (.inr b)) (fun _ => some true) (fun _ k => law53_DesyncMajority.j6 W.length k G W) (fun b i hi => by
      have hGp : 0 < G.length := hne fun e => by rw [← hW, e] at hi; simp at hi
      rw [law53_DesyncMajority.j6_eq, lt_true hi, cond_true]
      have inner : ∀ m k, k + m = W.length → law53_DesyncMajority.j7 i ((W.take k).countP (fun m => m.2.2 == W[i].2.2) : Nat) W.length i W.length k G W = law53_DesyncMajority.j6 W.length ((i + 1 : Nat) : Int) G W := by
        intro m
        induction m with
        | zero =>
          intro k hk
          rw [show k = W.length by omega, List.take_length, law53_DesyncMajority.j7_eq, lt_false (Nat.le_refl _), cond_false]
          have hc := hWG W[i].2.2 (fun e => by rw [e] at hi; simp at hi)
          have hg : (W[i].2.2 == G[0].2.2) = false := by
            have h1 := hWd W[i] (List.getElem_mem hi)
            have h2 := hGd G[0] (List.getElem_mem hGp)
            rw [h2]
            simpa using h1
          rw [show decide (((W.countP (fun m => m.2.2 == W[i].2.2) : Nat) : Int) > ((G.length : Nat) : Int)) = false by simp; omega, cond_false]
          simp (disch := omega) only [← Bool.decide_and, cond_dec, if_pos, Int.toNat_natCast, List.getElem?_eq_getElem hi, List.getElem?_eq_getElem hGp, Option.bind_some, hg, law53_DesyncMajority.j9_eq, cond_false, wr_succ hi]
        | succ m ih =>
          intro k hk
          have hlt : k < W.length := by omega
          have hc : (W.take (k + 1)).countP (fun m => m.2.2 == W[i].2.2) = (W.take k).countP (fun m => m.2.2 == W[i].2.2) + if W[k].2.2 == W[i].2.2 then 1 else 0 := by
            rw [List.take_succ_eq_append_getElem hlt, List.countP_append]
            simp [List.countP_cons]
          have hle : (W.take k).countP (fun m => m.2.2 == W[i].2.2) ≤ k := Nat.le_trans List.countP_le_length (by simp; omega)
          rw [law53_DesyncMajority.j7_eq]
          simp (disch := omega) only [← Bool.decide_and, cond_dec, if_pos, Int.toNat_natCast, List.getElem?_eq_getElem hi, List.getElem?_eq_getElem hlt, Option.bind_some, law53_DesyncMajority.j8_eq, wr_succ hlt]
          cases h : (W[k].2.2 == W[i].2.2) with
          | true =>
            rw [cond_true, wr_in (by omega) (by omega), ← ih (k + 1) (by omega), hc, h]
            rfl
          | false =>
            rw [cond_false, ← ih (k + 1) (by omega), hc, h]
            rfl
      have := inner W.length 0 (by omega)
      simp only [List.take_zero, List.countP_nil] at this
      exact this) (fun b => by rw [law53_DesyncMajority.j6_eq, lt_false (Nat.le_refl _), cond_false, hal]; rfl) (), foldE_foldl]
  have j5 : law53_DesyncMajority.j5 G.length 0 G W = some true := by
    rw [loopE G (fun (b : Unit) x => some (.inr b)) (fun _ => some true) (fun _ k => law53_DesyncMajority.j5 G.length k G W) (fun b i hi => by
      have hGp : 0 < G.length := by omega
      have hg : (G[i].2.2 != G[0].2.2) = false := by
        rw [hGd G[i] (List.getElem_mem hi), hGd G[0] (List.getElem_mem hGp)]; simp
      rw [law53_DesyncMajority.j5_eq]
      simp (disch := omega) only [← Bool.decide_and, cond_dec, if_pos, Int.toNat_natCast, List.getElem?_eq_getElem hi, List.getElem?_eq_getElem hGp, Option.bind_some, hg, cond_false, wr_succ hi]) (fun b => by rw [law53_DesyncMajority.j5_eq, lt_false (Nat.le_refl _), cond_false]; exact last) (), foldE_foldl]
  have j2 : law53_DesyncMajority.j2 false G W = some true := by rw [law53_DesyncMajority.j2_eq, cond_false]; exact j5
  by_cases hz : (firstM l).length > 0
  · have hGp := hne (List.ne_nil_of_length_pos hz)
    rw [show decide ((((firstM l).length : Nat) : Int) > 0) = true from decide_eq_true (by omega), cond_true, show (((G.length : Nat) : Int) == 0) = false by simp; exact List.ne_nil_of_length_pos hGp]
    exact j2
  · rw [show decide ((((firstM l).length : Nat) : Int) > 0) = false from decide_eq_false (by omega), cond_false]
    exact j2
end Go.Proofs.Ytgamdchlgikaiaa
