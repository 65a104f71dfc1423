/- append and copy: all arms. -/
import Derived.Test.YtgamdchlgikaiaaSkL
set_option linter.unusedSimpArgs false
set_option linter.unusedVariables false
set_option linter.unusedSectionVars false
namespace Go.Sk
open Go
section
variable {P : Program} {X : Fr} {env : List V} {mem : List Obj} {al : Nat → Prop} {tmps : Array Value} {w : World} {β : Nat → Value} {ok : Nat → Prop}

theorem append_sound (h : Inv X env mem al tmps w β ok) {t tx ty : TypeId} {id : Nat} (hid : ¬ al id) {a b : CV} {av bv : Value} (ha : RelC w ok X.rd β (kds mem) al a av) (hb : RelC w ok X.rd β (kds mem) al b bv) {out : Out}
    (hr : (appendC P t tx (.one a) (.one b) id).run1 mem = some out) :
    ∃ v w' β' ok', (Builtin.append_ #[t, tx] ty #[av, bv]).run P w = .ok v w' ∧ Inv X env (wrs mem out.ws) (fun i => al i ∨ i = id) tmps w' β' ok' ∧ RelV w' ok' X.rd β' (kds (wrs mem out.ws)) (fun i => al i ∨ i = id) out.v v := by
  unfold appendC at hr
  split at hr
  · rename_i te bytes sz a' b' hE e1 e2
    cases e1
    cases e2
    have hE := elemInfo_spec hE
    cases hok : srcOk P tx b with
    | false => rw [hok] at hr; cases hr
    | true =>
    rw [hok] at hr
    obtain ⟨ys, hys, hr⟩ := bind_run1 (x := srcElems te b) hr
    obtain ⟨news, hs, hy⟩ := rel_src h.obj hE.size hok hys hb
    obtain ⟨e, i, z, hu, hi, hz, hsz, hby, hzs, hzr⟩ := hE.ex
    cases a with
    | nils t' =>
      cases ha
      obtain ⟨hg, hr⟩ := guard_run1 hr
      obtain rfl := ret_run1 hr
      simp only [decide_eq_true_eq] at hg
      have e3 : wrs mem [(id, Obj.row te ys)] = wr mem id (.row te ys) := rfl
      by_cases hy0 : ys = []
      · subst hy0
        have hn0 : news = [] := List.eq_nil_of_length_eq_zero (by rw [hy.length]; simp)
        subst hn0
        obtain ⟨hN, hR⟩ := h.newRow0 (t := te) (A := none) hid (fun _ => false) (by simp) (mem' := wr mem id (.row te [])) (fun i => by rw [wr_getD]; simp)
        exact ⟨_, _, _, _, run_append_nothing w t tx ty e i hu hi none 0 0 (Nat.le_refl _) bv (by rw [hsz]; exact hs), hN, .one _ _ hR⟩
      · have hpos : 0 < ys.length := by
          cases ys with
          | nil => exact absurd rfl hy0
          | cons _ _ => simp
        obtain ⟨v, w', β', hrun, hN, hR⟩ := grow_left (ty := ty) h hE hid (base := none) (sLen := 0) (sCap := 0) (olds := []) (xs := []) (ys := ys) rfl ⟨by simp, by simp, by simp⟩ rfl hs hy (by omega) (by simpa using hg) (fun _ => false) (by simp)
          (mem' := wr mem id (.row te ys)) (fun i => by rw [wr_getD]; simp)
        exact ⟨v, w', β', ok, hrun, hN, .one _ _ hR⟩
    | clp t' xs0 =>
      obtain ⟨xs, hx, hr2⟩ := bind_run1 hr
      clear hr
      rw [Rd.run1_ofOption] at hx
      obtain ⟨e0, hx⟩ := decS_spec hx
      subst e0
      replace hx : xs = xs0 := hx
      subst hx
      obtain ⟨A, rfl, hrow⟩ : ∃ A, av = .slice A xs.length xs.length ∧ RowAt w ok (RepE w ok t') t'.size A xs := by cases ha; exact ⟨_, rfl, by assumption⟩
      obtain ⟨hg, hr2⟩ := guard_run1 hr2
      obtain rfl := ret_run1 hr2
      simp only [Bool.and_eq_true, Bool.or_eq_true, decide_eq_true_eq] at hg
      by_cases hy0 : ys = []
      · subst hy0
        have hx0 : xs = [] := List.eq_nil_of_length_eq_zero (by rcases hg.1 with h | h <;> simp_all)
        subst hx0
        have hn0 : news = [] := List.eq_nil_of_length_eq_zero (by rw [hy.length]; simp)
        subst hn0
        obtain ⟨hN, hR⟩ := h.newRow0 (t := t') (A := A) hid (fun _ => false) (by simp) (mem' := wr mem id (.row t' [])) (fun i => by rw [wr_getD]; simp)
        exact ⟨_, _, _, _, run_append_nothing w t tx ty e i hu hi A 0 0 (Nat.le_refl _) bv (by rw [hsz]; exact hs), hN, .one _ _ hR⟩
      · have hpos : 0 < ys.length := by
          cases ys with
          | nil => exact absurd rfl hy0
          | cons _ _ => simp
        obtain ⟨olds, hold, hox⟩ := olds_of (P := P) (w := w) (ok := ok) (A := A) (c := xs.length) (xs := xs) hE.size (by
          rcases hrow with h | ⟨b, o, e, _, h⟩
          · exact .inl h
          · exact .inr ⟨b, o, e, h⟩)
        obtain ⟨v, w', β', hrun, hN, hR⟩ := grow_left (ty := ty) h hE hid (base := A) (sLen := xs.length) (sCap := xs.length) (olds := olds) (xs := xs) (ys := ys) hold hox rfl hs hy (by omega) hg.2 (fun _ => false) (by simp)
          (mem' := wr mem id (.row t' (xs ++ ys))) (fun i => by rw [wr_getD]; simp)
        exact ⟨v, w', β', ok, hrun, hN, .one _ _ hR⟩
    | osl k =>
      simp only [Rd.run1_get] at hr
      have hob := h.obj k
      cases hm : mem.getD k .dead <;> rw [hm] at hr hob <;> try (cases hr; done)
      rename_i t' xs0
      obtain ⟨xs, hx, hr2⟩ := bind_run1 hr
      clear hr
      rw [Rd.run1_ofOption] at hx
      obtain ⟨e0, hx⟩ := decS_spec hx
      subst e0
      replace hx : xs = xs0 := hx
      subst hx
      obtain ⟨hg, hr2⟩ := guard_run1 hr2
      obtain rfl := ret_run1 hr2
      simp only [decide_eq_true_eq] at hg
      have hkal : al k := h.len k (by rw [hm]; simp [Obj.kd])
      have hkid : k ≠ id := fun e => hid (e ▸ hkal)
      have hm' : ∀ j, (wrs mem [(k, .dead), (id, .row t' (xs ++ ys))]).getD j .dead = if j = id then .row t' (xs ++ ys) else if j = k then .dead else mem.getD j .dead := fun j => by
        show (wr (wr mem k .dead) id _).getD j .dead = _
        rw [wr_getD, wr_getD]
      have hm2 : ∀ j, (wrs mem [(k, .dead), (id, .row t' (xs ++ ys))]).getD j .dead = if j = id then .row t' (xs ++ ys) else if (j == k) = true then .dead else mem.getD j .dead := fun j => by
        rw [hm' j]; simp
      rw [ha.osl_inv (by show (mem.getD k .dead).kd ≠ _; rw [hm]; simp [Obj.kd])]
      obtain ⟨A, c, hβ, hob⟩ := hob
      rw [hβ]
      by_cases hroom : xs.length + ys.length ≤ c
      · rcases hob with ⟨rfl, rfl⟩ | ⟨bb, o, arr, T, rfl, hh, h0, hle, hsz2, hrows⟩
        · have hy0 : ys = [] := List.eq_nil_of_length_eq_zero (by simp at hroom; simp [hroom])
          subst hy0
          have hn0 : news = [] := List.eq_nil_of_length_eq_zero (by rw [hy.length]; simp)
          subst hn0
          obtain ⟨hN, hR⟩ := h.newRow0 (t := t') (A := A) hid (fun j => j == k) (fun j hj => by simp at hj; rw [hj]; exact hkal) (mem' := wrs mem [(k, .dead), (id, .row t' ([] ++ []))]) (fun j => by rw [hm2 j]; rfl)
          exact ⟨_, _, _, _, run_append_nothing w t tx ty e i hu hi A 0 0 (Nat.le_refl _) bv (by rw [hsz]; exact hs), hN, .one _ _ hR⟩
        · have hst := hE.size
          have hnl : o + xs.length * i.size + news.length ≤ arr.size := by
            rw [hy.length, hsz, ← hst, Nat.add_assoc, ← Nat.add_mul]
            have := Nat.mul_le_mul_right t'.size hroom
            omega
          have hrun := run_append_room_src (P := P) w t tx ty e i hu hi bb o xs.length c bv ys.length news (by rw [hsz]; exact hs) hroom
            (fun j hj => by simp [World.cell?, hh]; omega) (fun j hj => by simp [World.frozen?, hh])
          obtain ⟨arr', g1, g2, g3, g4⟩ := heap_setCells bb news (o + xs.length * i.size) w hh hnl
          obtain ⟨f1, f2, f3, f4⟩ := setCells_facts bb news (o + xs.length * i.size) w
          -- the cells of both
          obtain ⟨olds, k1, k2, k3, k4⟩ := cells_of_rows (R := fun x us => RepE w ok t' x us) xs (fun j => arr[o + j]?) (fun k x hk => by
            obtain ⟨us, a1, a2, a3⟩ := hrows k x hk
            exact ⟨us, a1, a2, fun j u hj => by have := a3 j u hj; rwa [Nat.add_assoc] at this⟩)
          have hcs : Cells w ok t' xs olds := ⟨k1, k3, fun u hu => by
            obtain ⟨x, us, hr, hm⟩ := k4 u hu
            exact hr.one u hm⟩
          obtain ⟨hN, hR⟩ := h.moveRow (arr := arr) hid hm hβ (ys := xs ++ ys) (c' := c) (by omega) (by rw [List.length_append]; exact hroom) (by omega)
            (fun b' hb' => heap_setCells_other bb news _ w b' hb') g1 f1 f2 f3 f4 (o' := o) (hcs.append hy) (fun j u hj => by
              by_cases hlt : j < olds.length
              · rw [List.getElem?_append_left hlt] at hj
                rw [g3 _ (.inl (by rw [k1, hst] at hlt; rw [hsz]; omega))]
                exact k2 j u hj
              · rw [List.getElem?_append_right (by omega)] at hj
                have := g4 _ u hj
                rw [k1, hst] at this
                rw [k1, hst] at hlt
                rw [← this, hsz]; congr 1; omega) (by omega)
            (hrows.tail (m := (xs ++ ys).length) (q := o + xs.length * i.size + news.length) (by rw [List.length_append]; exact hroom) (by rw [hy.length, List.length_append, hsz, ← hst, Nat.add_mul]; omega) fun j hj => g3 _ (.inr hj)) hm'
          rw [List.length_append] at hN hR
          exact ⟨_, _, _, _, hrun, hN, .one _ _ hR⟩
      · obtain ⟨olds, hold, hox⟩ := olds_of (P := P) (w := w) (ok := ok) (A := A) (c := c) (xs := xs) hE.size (by
          rcases hob with ⟨h, _⟩ | ⟨b, o, arr, T, rfl, hh, h0, hle, hsz, h⟩
          · exact .inl h
          · exact .inr ⟨b, o, rfl, fun k x hk => let ⟨us, h1, h2, h3⟩ := h k x hk; ⟨us, h1, h2, fun j u hj => by simp [World.cell?, hh, h3 j u hj]⟩⟩)
        obtain ⟨v, w', β', hrun, hN, hR⟩ := grow_left (ty := ty) h hE hid (base := A) (sLen := xs.length) (sCap := c) (olds := olds) (xs := xs) (ys := ys) (by
            have : ∀ c1 c2, Builtin.firstCells sz xs.length (.slice A xs.length c1) = Builtin.firstCells sz xs.length (.slice A xs.length c2) := fun c1 c2 => by cases A <;> rfl
            exact hold) hox rfl hs hy (by omega) hg (fun j => j == k) (fun j hj => by simp at hj; rw [hj]; exact hkal)
          hm2
        exact ⟨v, w', β', ok, hrun, hN, .one _ _ hR⟩
    | ovw k of n =>
      simp only [Rd.run1_get] at hr
      have hob := h.obj k
      cases hm : mem.getD k .dead <;> rw [hm] at hr hob <;> try (cases hr; done)
      rename_i t' xs0
      obtain ⟨xs, hx, hr2⟩ := bind_run1 hr
      clear hr
      rw [Rd.run1_ofOption] at hx
      obtain ⟨e0, hx⟩ := decS_spec hx
      subst e0
      replace hx : xs = xs0 := hx
      subst hx
      obtain ⟨hon, hr2⟩ := guard_run1 hr2
      replace hon : of + n ≤ xs.length := by simpa using hon
      have hkal : al k := h.len k (by rw [hm]; simp [Obj.kd])
      have hkid : k ≠ id := fun e => hid (e ▸ hkal)
      have hkk : kds mem k = .row t' := by show (mem.getD k .dead).kd = _; rw [hm]; rfl
      obtain ⟨A, n', cp, A', hβ, rfl, hcp, hA⟩ : ∃ A n' c A', β k = .slice A n' c ∧ av = .slice A' n (c - of) ∧ of + n ≤ c ∧ (∀ b q, A = some ⟨b, q, none⟩ → c ≠ of → A' = some ⟨b, q + of * t'.size, none⟩) := by
        cases ha with
        | ovw _ _ _ _ hi hp h1 => exact hp t' hkk
      obtain ⟨A2, c2, hb2, hob⟩ := hob
      rw [hβ] at hb2
      cases hb2
      have hst := hE.size
      rw [Rd.run1_split] at hr2
      cases hin : decide (of + n + ys.length ≤ xs.length) with
      | true =>
        rw [hin] at hr2
        obtain rfl := ret_run1 (m := mem) hr2
        replace hin : of + n + ys.length ≤ xs.length := by simpa using hin
        show ∃ v w' β' ok', _ ∧ Inv X env (wr mem k _) _ _ _ _ _ ∧ RelV _ _ _ _ (kds (wr mem k _)) _ _ _
        have hlen : (xs.take (of + n) ++ ys ++ xs.drop (of + n + ys.length)).length = xs.length := by simp; omega
        have fin : ∀ {w' : World} {v : Value}, Inv X env (wr mem k (.row t' (xs.take (of + n) ++ ys ++ xs.drop (of + n + ys.length)))) al tmps w' β ok → v = .slice A' (n + ys.length) (cp - of) → of + (n + ys.length) ≤ cp →
            ∃ β' ok', Inv X env (wr mem k (.row t' (xs.take (of + n) ++ ys ++ xs.drop (of + n + ys.length)))) (fun i => al i ∨ i = id) tmps w' β' ok' ∧
              RelV w' ok' X.rd β' (kds (wr mem k (.row t' (xs.take (of + n) ++ ys ++ xs.drop (of + n + ys.length))))) (fun i => al i ∨ i = id) (.one (.ovw k of (n + ys.length))) v := by
          intro w' v hI hv hle
          have key := hI.update (mem' := wr mem k (.row t' (xs.take (of + n) ++ ys ++ xs.drop (of + n + ys.length)))) (al' := fun i => al i ∨ i = id) (β' := β) (ok' := ok) (fun _ => False) (fun _ h => .inl h) (fun _ h => h.elim) (fun _ _ => rfl) (fun _ _ => rfl) (fun _ h => h.elim) (fun _ h => h.elim) (fun b _ _ => rfl) (Nat.le_refl _)
            (fun _ h => h) (fun _ h => .inl h) (fun _ _ h => h.elim) (fun _ _ h => h.elim) (fun _ _ _ h => h.elim) (fun _ _ h => h.elim) rfl rfl rfl
          subst hv
          refine ⟨β, ok, key.2, .one _ _ (.ovw _ _ _ _ (.inl hkal) (fun t2 h2 => ?_) rfl)⟩
          have : t2 = t' := by
            have h3 : kds (wr mem k (.row t' (xs.take (of + n) ++ ys ++ xs.drop (of + n + ys.length)))) k = .row t' := by show ((wr mem k _).getD k .dead).kd = _; rw [wr_getD, if_pos rfl]; rfl
            rw [h3] at h2; cases h2; rfl
          subst this
          exact ⟨A, _, cp, A', hβ, rfl, hle, hA⟩
        by_cases hy0 : ys = []
        · subst hy0
          have hn0 : news = [] := List.eq_nil_of_length_eq_zero (by rw [hy.length]; simp)
          subst hn0
          have hrun := run_append_nothing w t tx ty e i hu hi A' n (cp - of) (by omega) bv (by rw [hsz]; exact hs)
          have hsame : xs.take (of + n) ++ [] ++ xs.drop (of + n + 0) = xs := by simp
          have hI : Inv X env (wr mem k (.row t' (xs.take (of + n) ++ [] ++ xs.drop (of + n + 0)))) al tmps w β ok := (h.congr (fun j => by
            rw [wr_getD]
            split
            · rename_i e; rw [e, hm, hsame]
            · rfl)).2
          obtain ⟨β', ok', h1, h2⟩ := fin hI rfl (by simpa using hcp)
          exact ⟨_, w, β', ok', hrun, h1, h2⟩
        · have hpos : 0 < ys.length := by
            cases ys with
            | nil => exact absurd rfl hy0
            | cons _ _ => simp
          rcases hob with ⟨rfl, rfl⟩ | ⟨bb, o, arr, T, rfl, hh, h0, hle, hsz2, hrows⟩
          · simp only [List.length_nil] at hin; omega
          · have hAe := hA bb o rfl (by omega)
            subst hAe
            have hmul : (of + n + ys.length) * t'.size ≤ cp * t'.size := Nat.mul_le_mul_right _ (by omega)
            have hnl : o + of * t'.size + n * i.size + news.length ≤ arr.size := by
              rw [hy.length, hsz, ← hst]
              rw [Nat.add_mul, Nat.add_mul] at hmul
              omega
            have hrun := run_append_room_src (P := P) w t tx ty e i hu hi bb (o + of * t'.size) n (cp - of) bv ys.length news (by rw [hsz]; exact hs) (by omega)
              (fun j hj => by simp [World.cell?, hh]; omega) (fun j hj => by simp [World.frozen?, hh])
            have hI := h.rowWrite (ys := xs.take (of + n) ++ ys ++ xs.drop (of + n + ys.length)) hm hlen hβ (by omega) hh hnl (by
              have := Nat.mul_le_mul_right t'.size hin
              rw [Nat.add_mul, Nat.add_mul] at this
              rw [hy.length, hsz, ← hst]
              omega) fun arr' hs1 hs2 hs3 j x hj => by
              rw [spl_get hin] at hj
              have e6 : o + of * t'.size + n * i.size = o + (of + n) * t'.size := by rw [hsz, ← hst, Nat.add_mul]; omega
              by_cases h1 : j < of + n
              · rw [if_pos h1] at hj
                obtain ⟨us, a1, a2, a3⟩ := hrows j x hj
                refine ⟨us, a1, a2, fun q u hq => ?_⟩
                have hq' : q < t'.size := by
                  rcases Nat.lt_or_ge q us.length with h | h
                  · omega
                  · rw [List.getElem?_eq_none h] at hq; cases hq
                rw [hs2 _ (.inl (by
                  have : (j + 1) * t'.size ≤ (of + n) * t'.size := Nat.mul_le_mul_right _ h1
                  rw [Nat.add_mul, Nat.one_mul] at this
                  omega))]
                exact a3 q u hq
              · rw [if_neg h1] at hj
                by_cases h2 : j < of + n + ys.length
                · rw [if_pos h2] at hj
                  obtain ⟨us, a1, a2, a3⟩ := hy.at_ _ x hj
                  refine ⟨us, a1, a2, fun q u hq => ?_⟩
                  have := hs3 _ u (a3 q u hq)
                  rw [← this]
                  congr 1
                  rw [e6]
                  have h3 : (of + n) * t'.size + (j - (of + n)) * t'.size = j * t'.size := by rw [← Nat.add_mul]; congr 1; omega
                  omega
                · rw [if_neg h2] at hj
                  obtain ⟨us, a1, a2, a3⟩ := hrows j x hj
                  refine ⟨us, a1, a2, fun q u hq => ?_⟩
                  rw [hs2 _ (.inr (by
                    have : (of + n + ys.length) * t'.size ≤ j * t'.size := Nat.mul_le_mul_right _ (by omega)
                    rw [hy.length, e6]
                    rw [Nat.add_mul] at this
                    omega))]
                  exact a3 q u hq
            obtain ⟨β', ok', h1, h2⟩ := fin hI rfl (by omega)
            exact ⟨_, _, β', ok', hrun, h1, h2⟩
      | false =>
        rw [hin] at hr2
        obtain ⟨hg, hr2⟩ := guard_run1 (m := mem) hr2
        obtain rfl := ret_run1 hr2
        simp only [decide_eq_true_eq] at hg
        have hin' : ¬ of + n + ys.length ≤ xs.length := by simpa using hin
        have hpos : 0 < ys.length := by omega
        have hm' : ∀ j, (wrs mem [(k, .dead), (id, .row t' ((xs.drop of).take n ++ ys))]).getD j .dead = if j = id then .row t' ((xs.drop of).take n ++ ys) else if j = k then .dead else mem.getD j .dead := fun j => by
          show (wr (wr mem k .dead) id _).getD j .dead = _
          rw [wr_getD, wr_getD]
        have hxl : ((xs.drop of).take n).length = n := by simp; omega
        have hget : ∀ q x, ((xs.drop of).take n)[q]? = some x → xs[of + q]? = some x := fun q x hk => by
          rw [List.getElem?_take] at hk
          split at hk
          · rwa [List.getElem?_drop] at hk
          · cases hk
        by_cases hroom : n + ys.length ≤ cp - of
        · rcases hob with ⟨rfl, rfl⟩ | ⟨bb, o, arr, T, rfl, hh, h0, hle, hsz2, hrows⟩
          · omega
          · have hAe := hA bb o rfl (by omega)
            subst hAe
            have hmul : (of + n + ys.length) * t'.size ≤ cp * t'.size := Nat.mul_le_mul_right _ (by omega)
            have hnl : o + of * t'.size + n * i.size + news.length ≤ arr.size := by
              rw [hy.length, hsz, ← hst]
              rw [Nat.add_mul, Nat.add_mul] at hmul
              omega
            have hrun := run_append_room_src (P := P) w t tx ty e i hu hi bb (o + of * t'.size) n (cp - of) bv ys.length news (by rw [hsz]; exact hs) hroom
              (fun j hj => by simp [World.cell?, hh]; omega) (fun j hj => by simp [World.frozen?, hh])
            obtain ⟨arr', g1, g2, g3, g4⟩ := heap_setCells bb news (o + of * t'.size + n * i.size) w hh hnl
            obtain ⟨f1, f2, f3, f4⟩ := setCells_facts bb news (o + of * t'.size + n * i.size) w
            obtain ⟨olds, k1, k2, k3, k4⟩ := cells_of_rows (R := fun x us => RepE w ok t' x us) ((xs.drop of).take n) (fun j => arr[o + of * t'.size + j]?) (fun q x hk => by
              obtain ⟨us, a1, a2, a3⟩ := hrows _ x (hget q x hk)
              exact ⟨us, a1, a2, fun j u hj => by have := a3 j u hj; rw [Nat.add_mul] at this; rw [← this]; congr 1; omega⟩)
            have hcs : Cells w ok t' ((xs.drop of).take n) olds := ⟨k1, k3, fun u hu => by
              obtain ⟨x, us, hr, hm⟩ := k4 u hu
              exact hr.one u hm⟩
            have hol : olds.length = n * t'.size := by rw [k1, hxl]
            obtain ⟨hN, hR⟩ := h.moveRow (arr := arr) hid hm hβ (ys := (xs.drop of).take n ++ ys) (c' := cp - of) (by omega) (by rw [List.length_append, hxl]; exact hroom) (by omega)
              (fun b' hb' => heap_setCells_other bb news _ w b' hb') g1 f1 f2 f3 f4 (o' := o + of * t'.size) (hcs.append hy) (fun j u hj => by
                by_cases hlt : j < olds.length
                · rw [List.getElem?_append_left hlt] at hj
                  rw [g3 _ (.inl (by rw [hol] at hlt; rw [hsz, ← hst]; omega))]
                  exact k2 j u hj
                · rw [List.getElem?_append_right (by omega)] at hj
                  have := g4 _ u hj
                  rw [hol] at this hlt
                  rw [← this, hsz, ← hst]; congr 1; omega) (by rw [g2, Nat.sub_mul]; have := Nat.mul_le_mul_right t'.size (show of ≤ cp by omega); omega)
              (by
                obtain ⟨sp, s1, s2⟩ := hrows.tail (m := of + n + ys.length) (q := o + of * t'.size + n * i.size + news.length) (arr' := arr') (by omega) (by rw [hy.length, hsz, ← hst, Nat.add_mul, Nat.add_mul]; omega) fun j hj => g3 _ (.inr hj)
                have hyl : ((xs.drop of).take n ++ ys).length = n + ys.length := by rw [List.length_append, hxl]
                refine ⟨sp, by rw [hyl]; omega, fun k x hk => ?_⟩
                obtain ⟨us, a1, a2, a3⟩ := s2 k x hk
                refine ⟨us, a1, a2, fun j u hj => ?_⟩
                have := a3 j u hj
                rw [← this, hyl]
                congr 1
                have e1 : (of + n + ys.length + k) * t'.size = of * t'.size + (n + ys.length + k) * t'.size := by rw [← Nat.add_mul]; congr 1; omega
                omega) hm'
            rw [List.length_append, hxl] at hN hR
            exact ⟨_, _, _, _, hrun, hN, .one _ _ hR⟩
        · obtain ⟨olds, hold, hox⟩ := olds_of (P := P) (w := w) (ok := ok) (A := A') (c := cp - of) (xs := (xs.drop of).take n) hE.size (by
            by_cases hn : n = 0
            · exact .inl (by simp [hn])
            rcases hob with ⟨rfl, rfl⟩ | ⟨b, o, arr, T, rfl, hh, h0, hle, hsz, h⟩
            · omega
            · exact .inr ⟨b, _, hA b o rfl (by omega), fun q x hk => let ⟨us, h1, h2, h3⟩ := h _ x (hget q x hk); ⟨us, h1, h2, fun j u hj => by
                have := h3 j u hj
                rw [Nat.add_mul] at this
                simp [World.cell?, hh, ← this, Nat.add_assoc]⟩⟩)
          rw [hxl] at hold
          obtain ⟨v, w', β', hrun, hN, hR⟩ := grow_left (ty := ty) h hE hid (base := A') (sLen := n) (sCap := cp - of) (olds := olds) (xs := (xs.drop of).take n) (ys := ys) hold hox hxl hs hy (by omega) hg (fun j => j == k) (fun j hj => by simp at hj; rw [hj]; exact hkal)
            (mem' := wrs mem [(k, .dead), (id, .row t' ((xs.drop of).take n ++ ys))]) (fun j => by rw [hm' j]; simp)
          exact ⟨v, w', β', ok, hrun, hN, .one _ _ hR⟩
    | _ => cases hr
  · cases hr
end
end Go.Sk
