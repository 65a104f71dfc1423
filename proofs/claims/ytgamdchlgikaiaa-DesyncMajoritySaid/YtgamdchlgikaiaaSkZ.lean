/- Results: what a function hands back. -/
import Derived.Test.YtgamdchlgikaiaaSkYS
set_option linter.unusedSimpArgs false
set_option linter.unusedVariables false
set_option linter.unusedSectionVars false
namespace Go.Sk
open Go

/-- a value that is an owned row's handle -/
def RowV (w : World) (ok : Nat → Prop) (t : Ty) (xs : List (El t)) (u : Value) : Prop :=
  ∃ A c, u = .slice A xs.length c ∧ ((xs = [] ∧ c = 0) ∨ ∃ b o arr T, A = some ⟨b, o, none⟩ ∧ w.heap[b]? = some (.cells arr T (0, 0)) ∧ 0 < c ∧ xs.length ≤ c ∧ o + c * t.size ≤ arr.size ∧ Lies w ok t xs c o arr)

def OwnedV (w : World) (ok : Nat → Prop) (o : Obj) (u : Value) : Prop := Owned o ∧ ∀ (rd : Nat → Prop) (β : Nat → Value) (kd : Nat → KD) (al : Nat → Prop) (i : Nat), β i = u → ObjRel w ok rd β kd al i o
theorem RowV.owned {w : World} {ok : Nat → Prop} {t : Ty} {xs : List (El t)} {u : Value} (h : RowV w ok t xs u) : OwnedV w ok (.row t xs) u :=
  ⟨.inl ⟨t, xs, rfl⟩, fun rd β kd al i hb => by obtain ⟨A, c, e, h⟩ := h; exact ⟨A, c, by rw [hb, e], h⟩⟩
/-- results as they are packed: us, the cells; vs, the rows' handles; idx, the rows that they were -/
structure Packed (w : World) (okx : Nat → Prop) (mem : List Obj) (β : Nat → Value) (r : RT) (x : r.El) (us vs : List Value) (idx : List (Option Nat)) : Prop where
  vlen : vs.length = ownCount r
  ilen : idx.length = ownCount r
  rel : ∀ (n : Nat) (rd : Nat → Prop) (β' : Nat → Value) (kd : Nat → KD) (al : Nat → Prop), (∀ (k : Nat) u, vs[k]? = some u → β' (n + k) = u ∧ al (n + k)) → RelL w okx rd β' kd al (packRT r x n).1 us
  rows : ∀ (n k : Nat) o u, (packRT r x n).2[k]? = some o → vs[k]? = some u → OwnedV w okx o u ∧ ∀ b, ownB o u = some b → ∃ i, idx[k]? = some (some i) ∧ own mem β i = some b

section
variable {P : Program} {w : World} {ok rd okx rdx Lp : Nat → Prop} {β : Nat → Value} {mem : List Obj} {al : Nat → Prop}

theorem hand_datas {β0 : Nat → Value} (H : Hand w ok rd β mem mem al okx rdx Lp) : ∀ {cs cs' : List CV} {us : List Value}, (dataCs cs).run1 mem = some cs' → (∀ i ∈ rowsD cs, Lp i) → RelL w ok rd β (kds mem) al cs us → RelL w okx rdx β0 noKd noAl cs' us
  | [], cs', us, hr, _, hl => by
    obtain rfl := ret_run1 hr
    exact ⟨hl.1, fun j c u hj => by simp at hj⟩
  | c :: r, cs', us, hr, hrow, hl => by
    obtain ⟨c1, h1, hr⟩ := bind_run1 hr
    obtain ⟨r1, h2, hr⟩ := bind_run1 hr
    obtain rfl := ret_run1 hr
    obtain ⟨v, q, rfl, hc, hq⟩ := hl.head
    have hsub : ∀ i, (i ∈ rowsD [c] ∨ i ∈ rowsD r) → i ∈ rowsD (c :: r) := by
      intro i hi
      cases c <;> simp_all [rowsD]
    exact .cons (hand_data H h1 (fun i hi => hrow i (hsub i (.inl hi))) hc) (hand_datas H h2 (fun i hi => hrow i (hsub i (.inr hi))) hq)

theorem RowV.mono {ok' : Nat → Prop} {t : Ty} {xs : List (El t)} {u : Value} (h : RowV w ok t xs u) (ho : ∀ b, ok b → ok' b) : RowV w ok' t xs u := by
  obtain ⟨A, c, hb, h⟩ := h
  refine ⟨A, c, hb, ?_⟩
  rcases h with h | ⟨b, o, arr, T, e, hh, h0, hle, hsz, hr⟩
  · exact .inl h
  · exact .inr ⟨b, o, arr, T, e, hh, h0, hle, hsz, hr.mono (fun _ _ => rfl) ho⟩

theorem unpack_sound (H : Hand w ok rd β mem mem al okx rdx Lp) : ∀ (r : RT) (cs : List CV) (us : List Value) (g : Got r.El), RelL w ok rd β (kds mem) al cs us → unpack mem r cs = some g → (∀ i ∈ g.read, Lp i) →
    ∃ us1 us2 vs idx, us = us1 ++ us2 ∧ RelL w ok rd β (kds mem) al g.rest us2 ∧ g.owned = idx.filterMap (fun x => x) ∧ Packed w okx mem β r g.x us1 vs idx
  | .ty t, cs, us, g, hl, hu, hL => by
    unfold unpack at hu
    split at hu
    · rename_i ps hps
      split at hu
      · rename_i x hx
        simp at hu
        subst hu
        have h1 := hl.take t.size
        have h2 := hand_datas (β0 := β) H hps hL h1
        have h3 := rel_decAll hx h2
        refine ⟨us.take t.size, us.drop t.size, [], [], (List.take_append_drop _ _).symm, hl.drop _, rfl, rfl, rfl, fun n rd β' kd al _ => rel_enc h3, fun n k o u hk => ?_⟩
        simp [packRT] at hk
      · cases hu
    · cases hu
  | .own t, [], us, g, hl, hu, hL => by cases hu
  | .own t, c :: cs, us, g, hl, hu, hL => by
    obtain ⟨u, q, rfl, hc, hq⟩ := hl.head
    unfold unpack at hu
    split at hu
    · rename_i xs is ht
      simp at hu
      subst hu
      have fin : ∀ (i? : Option Nat), is = [i?].filterMap (fun x => x) → RowV w okx t xs u → (∀ b, ownB (.row t xs) u = some b → ∃ i, i? = some i ∧ own mem β i = some b) →
          ∃ us1 us2 vs idx, u :: q = us1 ++ us2 ∧ RelL w ok rd β (kds mem) al cs us2 ∧ is = idx.filterMap (fun x => x) ∧ Packed w okx mem β (.own t) xs us1 vs idx := by
        intro i? h1 h2 h3
        refine ⟨[u], q, [u], [i?], rfl, hq, h1, rfl, rfl, fun n rd β' kd al hv => ?_, fun n k o u' hk hu => ?_⟩
        · obtain ⟨h4, h5⟩ := hv 0 u rfl
          refine .cons (.osl n u h5 (fun _ => h4.symm) ?_) .nil
          obtain ⟨A, c', e, _⟩ := h2
          rw [e]
          rfl
        · cases k with
          | zero =>
            simp [packRT] at hk hu
            subst hk
            subst hu
            refine ⟨h2.owned, fun b hb => ?_⟩
            obtain ⟨i, h6, h7⟩ := h3 b hb
            exact ⟨i, by simp [h6], h7⟩
          | succ k => simp [packRT] at hk
      unfold takeOwn at ht
      split at ht
      · simp at ht
        obtain ⟨rfl, rfl⟩ := ht
        cases hc
        exact fin none rfl ⟨none, 0, rfl, .inl ⟨rfl, rfl⟩⟩ fun b hb => by simp [ownB] at hb
      · rename_i i
        split at ht
        · rename_i t' xs' hm
          split at ht
          · rename_i ys hy
            simp at ht
            obtain ⟨rfl, rfl⟩ := ht
            obtain ⟨rfl, rfl⟩ := decS_spec hy
            have hu : u = β i := hc.osl_inv' (by show (mem.getD i .dead).kd ≠ _; rw [hm]; simp [Obj.kd])
            have hob := H.obj i
            rw [hm] at hob
            subst hu
            refine fin (some i) rfl ?_ fun b hb => ⟨i, rfl, by unfold own; rw [hm]; exact hb⟩
            exact RowV.mono hob H.hok
          · cases ht
        · cases ht
      · rename_i i o n
        split at ht
        · rename_i t' xs' hm
          split at ht
          · rename_i ys hy
            cases hle : decide (o + n ≤ ys.length) with
            | false => rw [hle] at ht; cases ht
            | true =>
            rw [hle] at ht
            simp only [cond, Option.some.injEq, Prod.mk.injEq] at ht
            obtain ⟨rfl, rfl⟩ := ht
            replace hle : o + n ≤ ys.length := by simpa using hle
            obtain ⟨rfl, rfl⟩ := decS_spec hy
            obtain ⟨A, n', cp, A', hb, rfl, hcp, hA⟩ : ∃ A n' c A', β i = .slice A n' c ∧ u = .slice A' n (c - o) ∧ o + n ≤ c ∧ (∀ b q, A = some ⟨b, q, none⟩ → c ≠ o → A' = some ⟨b, q + o * t'.size, none⟩) := by
              cases hc with
              | ovw _ _ _ _ hi hp h1 => exact hp t' (by show (mem.getD i .dead).kd = _; rw [hm]; rfl)
            have hob := H.obj i
            rw [hm] at hob
            obtain ⟨A2, c2, hb2, hob⟩ := hob
            rw [hb] at hb2
            cases hb2
            have hlen : ((ys.drop o).take n).length = n := by simp; omega
            by_cases hc0 : cp = o
            · have hn : n = 0 := by omega
              subst hn
              refine fin (some i) rfl ⟨A', 0, by simp [hc0], .inl ⟨by simp, rfl⟩⟩ fun b hb => ?_
              rw [hc0, Nat.sub_self] at hb
              cases A' <;> simp [ownB] at hb
            · rcases hob with ⟨_, rfl⟩ | ⟨bb, q0, arr, T, rfl, hh, h0, hle2, hsz, hrows⟩
              · omega
              · have hAe := hA bb q0 rfl hc0
                subst hAe
                refine fin (some i) rfl ⟨_, cp - o, by rw [hlen], .inr ⟨bb, q0 + o * t'.size, arr, T, rfl, hh, by omega, by rw [hlen]; omega, ?_, lies_of (fun k x hk => ?_) ?_⟩⟩ fun b hb2 => ⟨i, rfl, ?_⟩
                · have := Nat.sub_mul cp o t'.size
                  have := Nat.mul_le_mul_right t'.size (show o ≤ cp by omega)
                  omega
                · have hk' : ys[o + k]? = some x := by
                    rw [List.getElem?_take] at hk
                    split at hk
                    · rwa [List.getElem?_drop] at hk
                    · cases hk
                  obtain ⟨us, a1, a2, a3⟩ := hrows _ x hk'
                  refine ⟨us, a1, RepE.mono (fun _ _ => rfl) H.hok a2, fun j u hj => ?_⟩
                  have := a3 j u hj
                  rw [Nat.add_mul] at this
                  rw [← this]
                  congr 1
                  omega
                · obtain ⟨sp, s1, s2⟩ := hrows.tail (m := o + n) (q := 0) (arr' := arr) (by omega) (by omega) fun _ _ => rfl
                  refine ⟨sp, by rw [hlen]; omega, fun k x hk => ?_⟩
                  obtain ⟨us, a1, a2, a3⟩ := s2 k x hk
                  refine ⟨us, a1, RepE.mono (fun _ _ => rfl) H.hok a2, fun j u hj => ?_⟩
                  have := a3 j u hj
                  rw [← this, hlen]
                  congr 1
                  have e1 : (o + n + k) * t'.size = o * t'.size + (n + k) * t'.size := by rw [← Nat.add_mul]; congr 1; omega
                  omega
                · unfold own
                  rw [hm, hb]
                  simp only [ownB, if_neg (show ¬ cp - o = 0 by omega)] at hb2
                  simp only [ownB, if_neg (show ¬ cp = 0 by omega)]
                  exact hb2
          · cases ht
        · cases ht
      · cases ht
    · cases hu
  | .cat a b, cs, us, g, hl, hu, hL => by
    unfold unpack at hu
    split at hu
    · rename_i ga ha
      split at hu
      · rename_i gb hb
        simp at hu
        subst hu
        obtain ⟨ua, u2, va, ia, rfl, hr2, ho1, hp1⟩ := unpack_sound H a cs us ga hl ha fun i hi => hL i (by simp [hi])
        obtain ⟨ub, u3, vb, ib, rfl, hr3, ho2, hp2⟩ := unpack_sound H b ga.rest u2 gb hr2 hb fun i hi => hL i (by simp [hi])
        refine ⟨ua ++ ub, u3, va ++ vb, ia ++ ib, by simp, hr3, by simp [ho1, ho2], by simp [hp1.vlen, hp2.vlen, ownCount], by simp [hp1.ilen, hp2.ilen, ownCount], fun n rd β' kd al hv => ?_, fun n k o u hk hu => ?_⟩
        · simp only [packRT]
          refine (hp1.rel n rd β' kd al fun k u hk => hv k u ?_).append (hp2.rel _ rd β' kd al fun k u hk => ?_)
          · rw [List.getElem?_append_left (List.getElem?_eq_some_iff.1 hk).1]; exact hk
          · have := hv (va.length + k) u (by rw [List.getElem?_append_right (by omega)]; simpa using hk)
            rw [packRT_count, ← hp1.vlen, Nat.add_assoc]
            exact this
        · simp only [packRT] at hk
          by_cases hlt : k < va.length
          · rw [List.getElem?_append_left (by rw [packRT_count, ← hp1.vlen]; exact hlt)] at hk
            rw [List.getElem?_append_left hlt] at hu
            obtain ⟨h1, h2⟩ := hp1.rows n k o u hk hu
            refine ⟨h1, fun b hb => ?_⟩
            obtain ⟨i, h3, h4⟩ := h2 b hb
            exact ⟨i, by rw [List.getElem?_append_left (by rw [hp1.ilen, ← hp1.vlen]; exact hlt)]; exact h3, h4⟩
          · rw [List.getElem?_append_right (by rw [packRT_count, ← hp1.vlen]; omega), packRT_count, ← hp1.vlen] at hk
            rw [List.getElem?_append_right (by omega)] at hu
            obtain ⟨h1, h2⟩ := hp2.rows _ _ o u hk hu
            refine ⟨h1, fun b hb => ?_⟩
            obtain ⟨i, h3, h4⟩ := h2 b hb
            exact ⟨i, by rw [List.getElem?_append_right (by rw [hp1.ilen, ← hp1.vlen]; omega), hp1.ilen, ← hp1.vlen]; exact h3, h4⟩
      · cases hu
    · cases hu
  | .nothing, cs, us, g, hl, hu, hL => by
    simp [unpack] at hu
    subst hu
    exact ⟨[], us, [], [], rfl, hl, rfl, rfl, rfl, fun n rd β' kd al _ => ⟨rfl, fun j c u hj => by simp [packRT] at hj⟩, fun n k o u hk => by simp [packRT] at hk⟩
  | .keep _, cs, us, g, hl, hu, hL => by cases hu
  | .map kt vt g b, [], us, got, hl, hu, hL => by cases hu
  | .map kt vt g b, c :: cs, us, got, hl, hu, hL => by
    obtain ⟨u, q, rfl, hc, hq⟩ := hl.head
    unfold unpack at hu
    split at hu
    · rename_i es is ht
      simp at hu
      subst hu
      unfold takeMap at ht
      split at ht
      · rename_i i
        split at ht
        · rename_i kt' vt' g' es' tidy hm
          cases hgb : (g' == g && tidy == b) with
          | false => rw [hgb] at ht; cases ht
          | true =>
          rw [hgb] at ht
          simp only [cond] at ht
          simp only [Bool.and_eq_true, beq_iff_eq] at hgb
          obtain ⟨hg1, hg2⟩ := hgb
          subst hg1
          subst hg2
          split at ht
          · rename_i es2 he
            simp at ht
            obtain ⟨rfl, rfl⟩ := ht
            obtain ⟨e1, e2, e3⟩ := decM_spec he
            subst e1
            subst e2
            simp only at e3
            subst e3
            have hu : u = β i := hc.osl_inv' (by show (mem.getD i .dead).kd ≠ _; rw [hm]; simp [Obj.kd])
            have hob := H.obj i
            rw [hm] at hob
            have hown : Owned (.map kt' vt' g' es2 tidy) := .inr ⟨_, _, _, _, _, rfl⟩
            have hone : u.oneCell' = true := by
              obtain ⟨r, arr, clock, e, _⟩ := hob
              rw [hu, e]; rfl
            refine ⟨[u], q, [u], [some i], rfl, hq, rfl, rfl, rfl, fun n rd β' kd al hv => ?_, fun n k o u' hk hu' => ?_⟩
            · obtain ⟨h4, h5⟩ := hv 0 u rfl
              exact .cons (.osl n u h5 (fun _ => h4.symm) hone) .nil
            · cases k with
              | zero =>
                simp [packRT] at hk hu'
                subst hk
                subst hu'
                refine ⟨⟨hown, fun rd β2 kd al j hb => hown.move hob (by rw [hb, hu]) H.hok⟩, fun b hb => ⟨i, rfl, ?_⟩⟩
                unfold own
                rw [hm, ← hu]
                exact hb
              | succ k => simp [packRT] at hk
          · cases ht
        · cases ht
      · cases ht
    · cases hu
end
end Go.Sk
