/- What the functions of the layer come to: Blame. -/
import Derived.Test.YtgamdchlgikaiaaP2
set_option linter.unusedVariables false
set_option linter.unusedSimpArgs false
namespace Go.Proofs.Ytgamdchlgikaiaa
open Go Go.Sk

/-! ### maps -/
section
variable {k : IntKind} {vt : Ty}
theorem mapFind_set (o : List (Int × El vt)) (a : Int) (v : El vt) (q : Int) : mapFind (.int k) vt (mapSet (.int k) vt o a v) q = if q = a then some v else mapFind (.int k) vt o q := by
  induction o with
  | nil =>
    simp only [mapSet, mapFind, eqE]
    by_cases h : q = a
    · rw [if_pos h, show (q == a) = true by simp [h]]; rfl
    · rw [if_neg h, show (q == a) = false by simp [h]]; rfl
  | cons p r ih =>
    simp only [mapSet, eqE]
    by_cases h1 : a = p.1
    · rw [show (a == p.1) = true by simp [h1], cond_true]
      simp only [mapFind, eqE]
      by_cases h2 : q = a
      · rw [if_pos h2, show (q == p.1) = true by simp [h2, h1]]; rfl
      · rw [if_neg h2, show (q == p.1) = false by simp [← h1, h2]]; rfl
    · rw [show (a == p.1) = false by simp [h1], cond_false]
      simp only [mapFind, eqE]
      rw [ih]
      by_cases h2 : q = p.1
      · rw [show (q == p.1) = true by simp [h2], cond_true, cond_true, if_neg (by rw [h2]; exact fun e => h1 e.symm)]
      · rw [show (q == p.1) = false by simp [h2], cond_false, cond_false]
end
theorem asc_ext : ∀ (l r : List Int), l.Pairwise (· < ·) → r.Pairwise (· < ·) → (∀ x, x ∈ l ↔ x ∈ r) → l = r
  | [], [], _, _, _ => rfl
  | [], b :: r, _, _, h => by have := (h b).2 (by simp); simp at this
  | a :: l, [], _, _, h => by have := (h a).1 (by simp); simp at this
  | a :: l, b :: r, h1, h2, h => by
    obtain ⟨a1, a2⟩ := List.pairwise_cons.1 h1
    obtain ⟨b1, b2⟩ := List.pairwise_cons.1 h2
    have hab : a = b := by
      have ha := (h a).1 (by simp)
      have hb := (h b).2 (by simp)
      rcases List.mem_cons.1 ha with e | ha
      · exact e
      · rcases List.mem_cons.1 hb with e | hb
        · exact e.symm
        · have := b1 a ha; have := a1 b hb; omega
    subst hab
    rw [asc_ext l r a2 b2 fun x => ?_]
    have hx := h x
    simp only [List.mem_cons] at hx
    constructor
    · intro hxl
      rcases hx.1 (.inr hxl) with e | h
      · have := a1 x hxl; omega
      · exact h
    · intro hxr
      rcases hx.2 (.inr hxr) with e | h
      · have := b1 x hxr; omega
      · exact h

/-! ### the first loop: the peers and their digests -/
def digP (l : List Mk) (p : Int) : Option Int := (l.find? (isP p)).map fun m => m.2.2
theorem sort_eq (l : List Int) (h : l.length < 4611686018427387904) : slices_Sort.f l = some (l.mergeSort fun x y => decide (x ≤ y)) := by
  have e : cfg.prim 23 [(.one (.osl 1))] [(.ghost [(.osl 1)]), (.row (.int .i64) l)] ⟨[.one (.own (.int .i64))], 1⟩ = some (l.mergeSort fun x y => decide (x ≤ y)) := if_pos h
  unfold slices_Sort.f callX orPrim
  rw [e]
  rfl
theorem blame_first (l : List Mk) (hl : l.length ≤ big) : ∃ (o1 : List (Int × Int)) (o2 : List Int), (∀ p, mapFind (.int .i64) (.int .u64) o1 p = digP l p) ∧ o2.Nodup ∧ (∀ p, p ∈ o2 ↔ ∃ m ∈ l, m.1 = p) ∧ o2.length ≤ l.length ∧
    desync_Blame.f l = desync_Blame.j0 l l.length l.length o1 o2 := by
  unfold big at hl
  have key : ∀ m k (o1 : List (Int × Int)) (o2 : List Int), k + m = l.length → (∀ p, mapFind (.int .i64) (.int .u64) o1 p = digP (l.take k) p) → o2.Nodup → (∀ p, p ∈ o2 ↔ ∃ m ∈ l.take k, m.1 = p) → o2.length ≤ k →
      ∃ (p1 : List (Int × Int)) (p2 : List Int), (∀ p, mapFind (.int .i64) (.int .u64) p1 p = digP l p) ∧ p2.Nodup ∧ (∀ p, p ∈ p2 ↔ ∃ m ∈ l, m.1 = p) ∧ p2.length ≤ l.length ∧ desync_Blame.j0 l l.length k o1 o2 = desync_Blame.j0 l l.length l.length p1 p2 := by
    intro m
    induction m with
    | zero =>
      intro k o1 o2 hk h1 h2 h3 h4
      have : k = l.length := by omega
      subst this
      rw [List.take_length] at h1 h3
      exact ⟨o1, o2, h1, h2, h3, h4, rfl⟩
    | succ m ih =>
      intro k o1 o2 hk h1 h2 h3 h4
      have hlt : k < l.length := by omega
      have ht : l.take (k + 1) = l.take k ++ [l[k]] := List.take_succ_eq_append_getElem hlt
      rw [desync_Blame.j0_eq]
      simp (disch := omega) only [← Bool.decide_and, cond_dec, if_pos, idx_nat, List.getElem?_eq_getElem hlt, Option.bind_some, desync_Blame.j1_eq, wr_succ hlt, List.length_singleton]
      cases hf : mapFind (.int .i64) (.int .u64) o1 l[k].1 with
      | none =>
        simp only [Option.isSome_none, Bool.not_false, cond_true]
        rw [h1] at hf
        have hf' : (l.take k).find? (isP l[k].1) = none := by
          unfold digP at hf
          cases hq : (l.take k).find? (isP l[k].1) with
          | none => rfl
          | some z => rw [hq] at hf; cases hf
        have hno : ∀ m ∈ l.take k, m.1 ≠ l[k].1 := fun m hm e => by
          have := List.find?_eq_none.1 hf' m hm
          simp [isP, e] at this
        refine ih (k + 1) _ _ (by omega) (fun p => ?_) ?_ (fun p => ?_) (by simp; omega)
        · rw [mapFind_set, ht]
          unfold digP
          rw [List.find?_append]
          by_cases hp : p = l[k].1
          · subst hp
            rw [if_pos rfl, hf']
            simp [isP]
          · rw [if_neg hp, h1]
            unfold digP
            have : [l[k]].find? (isP p) = none := by simp [isP, Ne.symm hp]
            rw [this]
            simp
        · rw [List.nodup_append]
          refine ⟨h2, by simp, fun a ha b hb => ?_⟩
          simp at hb
          subst hb
          obtain ⟨m, hm, e⟩ := (h3 a).1 ha
          rw [← e]
          exact hno m hm
        · rw [List.mem_append, h3, ht]
          simp only [List.mem_append, List.mem_singleton]
          constructor
          · rintro (⟨m, hm, e⟩ | e)
            · exact ⟨m, .inl hm, e⟩
            · exact ⟨l[k], .inr rfl, e.symm⟩
          · rintro ⟨m, hm | hm, e⟩
            · exact .inl ⟨m, hm, e⟩
            · exact .inr (by rw [← e, hm])
      | some d =>
        simp only [Option.isSome_some, Bool.not_true, cond_false]
        rw [h1] at hf
        obtain ⟨z, hz⟩ : ∃ z, (l.take k).find? (isP l[k].1) = some z := by
          unfold digP at hf
          cases hq : (l.take k).find? (isP l[k].1) with
          | none => rw [hq] at hf; cases hf
          | some z => exact ⟨z, rfl⟩
        refine ih (k + 1) _ _ (by omega) (fun p => ?_) h2 (fun p => ?_) (by omega)
        · rw [h1, ht]
          unfold digP
          rw [List.find?_append]
          cases hq : (l.take k).find? (isP p) with
          | some z => rfl
          | none =>
            have hp : p ≠ l[k].1 := fun e => by rw [e, hz] at hq; cases hq
            have : [l[k]].find? (isP p) = none := by simp [isP, Ne.symm hp]
            rw [this]; rfl
        · rw [h3, ht]
          simp only [List.mem_append, List.mem_singleton]
          constructor
          · rintro ⟨m, hm, e⟩; exact ⟨m, .inl hm, e⟩
          · rintro ⟨m, hm | hm, e⟩
            · exact ⟨m, hm, e⟩
            · refine ⟨z, List.mem_of_find?_eq_some hz, ?_⟩
              have : z.1 = l[k].1 := by simpa [isP] using List.find?_some hz
              rw [this, ← e, hm]
  obtain ⟨p1, p2, a, b, c, d, e⟩ := key l.length 0 [] [] (by omega) (fun p => by simp [digP, mapFind]) .nil (fun p => by simp) (by simp)
  exact ⟨p1, p2, a, b, c, d, by rw [desync_Blame.f_eq]; exact e⟩

/-- the peers, sorted, are those of the first marks -/
theorem peers_sorted {l : List Mk} {o2 : List Int} (h2 : o2.Nodup) (h3 : ∀ p, p ∈ o2 ↔ ∃ m ∈ l, m.1 = p) : (o2.mergeSort fun x y => decide (x ≤ y)) = (firstM l).map (·.1) := by
  have hF := firsts_of l
  have hp : (o2.mergeSort fun x y => decide (x ≤ y)).Perm o2 := List.mergeSort_perm _ _
  refine asc_ext _ _ ?_ (List.pairwise_map.2 hF.asc) fun x => ?_
  · have hs : (o2.mergeSort fun x y => decide (x ≤ y)).Pairwise fun x y => decide (x ≤ y) = true := List.pairwise_mergeSort (fun a b c h1 h2 => by simp at *; omega) (fun a b => by simp; omega) _
    have hn : (o2.mergeSort fun x y => decide (x ≤ y)).Nodup := hp.nodup_iff.2 h2
    exact (hs.and hn).imp fun {a b} h => by have := h.1; have := h.2; simp at *; omega
  · rw [hp.mem_iff, h3]
    constructor
    · rintro ⟨m, hm, e⟩
      cases hf : l.find? (isP x) with
      | none =>
        have := List.find?_eq_none.1 hf m hm
        simp [isP, e] at this
      | some z =>
        have hz : z.1 = x := by simpa [isP] using List.find?_some hf
        exact List.mem_map.2 ⟨z, (hF.mem z).2 (by rw [hz]; exact hf), hz⟩
    · intro hx
      obtain ⟨z, hz, e⟩ := List.mem_map.1 hx
      exact ⟨z, List.mem_of_find?_eq_some ((hF.mem z).1 hz), e⟩
theorem digP_first {l : List Mk} {m : Mk} (h : m ∈ firstM l) : digP l m.1 = some m.2.2 := by
  unfold digP
  rw [((firsts_of l).mem m).1 h]
  rfl

/-! ### the counts -/
def digOf (l : List Mk) (p : Int) : Int := (digP l p).getD 0
def cnt (d : Int) (ps : List Int) (l : List Mk) : Nat := ps.countP fun p => digOf l p == d
theorem blame_counts (l : List Mk) {o1 : List (Int × Int)} (h1 : ∀ p, mapFind (.int .i64) (.int .u64) o1 p = digP l p) (ps : List Int) (hp : ps.length ≤ big) :
    ∃ o3 : List (Int × Int), (∀ d, (mapFind (.int .u64) (.int .i64) o3 d).getD 0 = (cnt d ps l : Nat)) ∧ desync_Blame.j2 ps.length 0 o1 ps [] = desync_Blame.j3 0 ps.length 0 o1 ps o3 0 := by
  unfold big at hp
  have key : ∀ m k (o3 : List (Int × Int)), k + m = ps.length → (∀ d, (mapFind (.int .u64) (.int .i64) o3 d).getD 0 = (cnt d (ps.take k) l : Nat)) →
      ∃ o3' : List (Int × Int), (∀ d, (mapFind (.int .u64) (.int .i64) o3' d).getD 0 = (cnt d ps l : Nat)) ∧ desync_Blame.j2 ps.length k o1 ps o3 = desync_Blame.j3 0 ps.length 0 o1 ps o3' 0 := by
    intro m
    induction m with
    | zero =>
      intro k o3 hk h
      have : k = ps.length := by omega
      subst this
      rw [List.take_length] at h
      refine ⟨o3, h, ?_⟩
      rw [desync_Blame.j2_eq, lt_false (Nat.le_refl _)]
      rfl
    | succ m ih =>
      intro k o3 hk h
      have hlt : k < ps.length := by omega
      rw [desync_Blame.j2_eq]
      simp (disch := omega) only [← Bool.decide_and, cond_dec, if_pos, Int.toNat_natCast, List.getElem?_eq_getElem hlt, Option.bind_some, wr_succ hlt, h1]
      refine ih (k + 1) _ (by omega) fun d => ?_
      rw [mapFind_set]
      have ht : ps.take (k + 1) = ps.take k ++ [ps[k]] := List.take_succ_eq_append_getElem hlt
      have hc : cnt d (ps.take (k + 1)) l = cnt d (ps.take k) l + if digOf l ps[k] = d then 1 else 0 := by
        unfold cnt
        rw [ht, List.countP_append]
        congr 1
        by_cases h : digOf l ps[k] = d <;> simp [h]
      have hle : ∀ d, cnt d (ps.take k) l ≤ k := fun d => Nat.le_trans List.countP_le_length (by simp; omega)
      rw [hc]
      show Option.getD (if d = digOf l ps[k] then _ else _) 0 = _
      by_cases hd : d = digOf l ps[k]
      · rw [if_pos hd, if_pos hd.symm]
        simp only [Option.getD_some]
        rw [show (digP l ps[k]).getD 0 = d from hd.symm, h d, wr_in (by have := hle d; omega) (by have := hle d; omega)]
        rfl
      · rw [if_neg hd, if_neg (fun e => hd e.symm), h d]
        rfl
  exact key ps.length 0 [] (by omega) fun d => by simp [mapFind, cnt]

/-- the digest that most have: of as many, the first -/
def bestS (c : Int → Nat) (q : Int × Int) (d : Int) : Int × Int := if ((c d : Nat) : Int) > q.1 then (c d, d) else q
def best (c : Int → Nat) (ds : List Int) : Int × Int := ds.foldl (bestS c) (0, 0)
theorem blame_best (l : List Mk) {o1 o3 : List (Int × Int)} (h1 : ∀ p, mapFind (.int .i64) (.int .u64) o1 p = digP l p) (ps : List Int) (hp : ps.length ≤ big) (h3 : ∀ d, (mapFind (.int .u64) (.int .i64) o3 d).getD 0 = (cnt d ps l : Nat)) :
    desync_Blame.j3 0 ps.length 0 o1 ps o3 0 = (slices_DeleteFunc.f ps o1 (best (fun d => cnt d ps l) (ps.map (digOf l))).2).bind fun r => some r.1 := by
  unfold big at hp
  rw [loopE ps (fun (q : Int × Int) p => some (.inr (bestS (fun d => cnt d ps l) q (digOf l p)))) (fun q => (slices_DeleteFunc.f ps o1 q.2).bind fun r => some r.1) (fun q k => desync_Blame.j3 q.1 ps.length k o1 ps o3 q.2) (fun q k hk => by
    rw [desync_Blame.j3_eq]
    simp (disch := omega) only [← Bool.decide_and, cond_dec, if_pos, Int.toNat_natCast, List.getElem?_eq_getElem hk, Option.bind_some, wr_succ hk, h1, h3, desync_Blame.j4_eq, bestS]
    show (if ((cnt (digOf l ps[k]) ps l : Nat) : Int) > q.1 then _ else _) = _
    by_cases h : ((cnt (digOf l ps[k]) ps l : Nat) : Int) > q.1
    · rw [if_pos h, if_pos h]; rfl
    · rw [if_neg h, if_neg h]) (fun q => by rw [desync_Blame.j3_eq, lt_false (Nat.le_refl _)]; rfl) ((0, 0) : Int × Int)]
  rw [foldE_foldl, best, List.foldl_map]

/-! ### DeleteFunc -/
theorem delete_index (l : List Mk) {o1 : List (Int × Int)} (h1 : ∀ p, mapFind (.int .i64) (.int .u64) o1 p = digP l p) (ps : List Int) (hp : ps.length ≤ big) (r : Int) :
    slices_IndexFunc_1.f ps o1 r = some ((match ps.findIdx? (fun p => digOf l p == r) with | some j => (j : Int) | none => -1), ps, o1, r) := by
  unfold big at hp
  rw [slices_IndexFunc_1.f_eq, loopI ps (fun (b : Unit) q => some (bif (digOf l q.1 == r) then .inl (((q.2 : Nat) : Int), ps, o1, r) else .inr b)) (fun _ => some (-1, ps, o1, r)) (fun _ k => slices_IndexFunc_1.j0 ps.length k ps o1 r) (fun b k hk => by
    rw [slices_IndexFunc_1.j0_eq]
    simp (disch := omega) only [← Bool.decide_and, cond_dec, if_pos, Int.toNat_natCast, List.getElem?_eq_getElem hk, Option.bind_some, wr_succ hk, desync_Blame_1.f_eq, h1]
    show (bif (digOf l ps[k] == r) then _ else _) = _
    cases (digOf l ps[k] == r) <;> rfl) (fun b => by rw [slices_IndexFunc_1.j0_eq, lt_false (Nat.le_refl _)]; rfl) ()]
  have := foldE_find (fun p => digOf l p == r) (fun n => ((n : Int), ps, o1, r)) (some (-1, ps, o1, r)) ps 0
  simp only at this
  rw [this]
  cases ps.findIdx? (fun p => digOf l p == r) <;> simp
theorem delete_eq (l : List Mk) {o1 : List (Int × Int)} (h1 : ∀ p, mapFind (.int .i64) (.int .u64) o1 p = digP l p) (ps : List Int) (hp : ps.length ≤ big) (r : Int) :
    slices_DeleteFunc.f ps o1 r = some (ps.filter (fun p => !(digOf l p == r)), o1, r) := by
  have hp' := hp
  unfold big at hp'
  rw [slices_DeleteFunc.f_eq, delete_index l h1 ps hp r, Option.bind_some]
  cases hf : ps.findIdx? (fun p => digOf l p == r) with
  | none =>
    simp only [show ((-1 : Int) == -1) = true from rfl, cond_true]
    have := List.findIdx?_eq_none_iff.1 hf
    rw [List.filter_eq_self.2 fun p hp => by rw [this p hp]; rfl]
  | some i =>
    obtain ⟨hi, hpi, hbef⟩ := List.findIdx?_eq_some_iff_getElem.1 hf
    simp only
    rw [show (((i : Nat) : Int) == -1) = false by simp, cond_false, wr_succ hi (by omega)]
    have key : ∀ m j i (cur : List Int), j + m = ps.length → i ≤ j → cur.length = ps.length → cur.drop j = ps.drop j → cur.take i = (ps.take j).filter (fun p => !(digOf l p == r)) →
        slices_DeleteFunc.j0 (i : Nat) (j : Nat) o1 r cur = some (ps.filter (fun p => !(digOf l p == r)), o1, r) := by
      intro m
      induction m with
      | zero =>
        intro j i cur hj hij hcl hd ht
        have e1 : (((ps.length : Nat) : Int) - (i : Int)).toNat = ps.length - i := by omega
        have e2 : (((i : Nat) : Int) - 0).toNat = i := by omega
        rw [slices_DeleteFunc.j0_eq]
        have hlen : (cur.take i ++ List.replicate (ps.length - i) (0 : Int) ++ cur.drop (i + (ps.length - i))).length = ps.length := by simp; omega
        simp (disch := omega) only [← Bool.decide_and, cond_dec, if_pos, if_neg, Int.toNat_natCast, hcl, e1, e2, hlen, List.drop_zero]
        rw [List.append_assoc, List.take_left' (by simp; omega), ht, show j = ps.length by omega, List.take_length]
      | succ m ih =>
        intro j i cur hj hij hcl hd ht
        have hlt : j < ps.length := by omega
        have hcj : cur[j]? = some ps[j] := by
          have := congrArg (fun l => l[0]?) hd
          simpa [List.getElem?_drop, List.getElem?_eq_getElem hlt] using this
        have hci : cur[i]? = some (cur[i]'(by omega)) := List.getElem?_eq_getElem (by omega)
        have hpt : ps.take (j + 1) = ps.take j ++ [ps[j]] := List.take_succ_eq_append_getElem hlt
        rw [slices_DeleteFunc.j0_eq]
        simp (disch := omega) only [← Bool.decide_and, cond_dec, if_pos, Int.toNat_natCast, hcl, hcj, hci, Option.bind_some, desync_Blame_1.f_eq, h1, slices_DeleteFunc.j1_eq, wr_succ hlt]
        show (bif !(digOf l ps[j] == r) then _ else _) = _
        cases hq : (digOf l ps[j] == r) with
        | true =>
          simp only [Bool.not_true, cond_false]
          refine ih (j + 1) i cur (by omega) (by omega) hcl ?_ ?_
          · rw [← List.drop_drop, hd, List.drop_drop]
          · rw [hpt, List.filter_append, ← ht]; simp [hq]
        | false =>
          simp only [Bool.not_false, cond_true]
          rw [wr_succ (n := ps.length) (by omega) (by omega)]
          refine ih (j + 1) (i + 1) (cur.set i ps[j]) (by omega) (by omega) (by simp [hcl]) ?_ ?_
          · rw [List.drop_set_of_lt (by omega), ← List.drop_drop, hd, List.drop_drop]
          · rw [List.take_succ_eq_append_getElem (by simp; omega), hpt, List.filter_append, ← ht]
            simp [hq, List.take_set_of_le (Nat.le_refl i)]
    refine key (ps.length - (i + 1)) (i + 1) i ps (by omega) (by omega) rfl rfl ?_
    rw [List.take_succ_eq_append_getElem hi, List.filter_append]
    have : (ps.take i).filter (fun p => !(digOf l p == r)) = ps.take i := List.filter_eq_self.2 fun p hp => by
      obtain ⟨j, hj, e⟩ := List.mem_iff_getElem.1 hp
      have hji : j < i := by simp at hj; omega
      have := hbef j hji
      simp at e
      rw [← e]
      simpa using this
    rw [this]
    simp [hpi]
end Go.Proofs.Ytgamdchlgikaiaa
