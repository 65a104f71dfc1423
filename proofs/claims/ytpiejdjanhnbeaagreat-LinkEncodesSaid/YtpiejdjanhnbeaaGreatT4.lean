/- Results: what a function hands back. -/
import Derived.Test.YtpiejdjanhnbeaaGreatT3
import Derived.Lib.UnsafeStr
import Derived.Sort.Grow
import Derived.Sort.EncStr
import Derived.Maps.RangeRun
import Derived.Sort.KeysCollected
import Derived.Below
import Derived.Laws.AppendOwn
import Derived.Lib.SlKeysI
import Derived.Maps.Range
import Derived.Test.YtpiejdjanhnbeaaGreatT1
import Derived.IntWalk
import Derived.Laws.Strings
import Derived.WalkKit
import Derived.ProofKit
import Derived.OpenShut
import Derived.ShutString
import Derived.ChangeOld
import Derived.SizedLaws
import Derived.Carry
import Derived.Deep.Slices
set_option linter.unusedSimpArgs false
set_option linter.unusedVariables false
set_option linter.unusedSectionVars false
namespace Go.Sk
open Go

/-- a value that is an owned row's handle -/
def RowV (w : World) (ok : Nat → Prop) (t : Ty) (xs : List (El t)) (u : Value) : Prop :=
  ∃ A c, u = .slice A xs.length c ∧ ((xs = [] ∧ c = 0) ∨ ∃ (b o : Nat) (arr : Array Value) (T : RowT t), A = some ⟨b, o, none⟩ ∧ w.heap[b]? = some (.cells arr T.1 (0, 0)) ∧ 0 < c ∧ xs.length ≤ c ∧ o + c * t.size ≤ arr.size ∧ Lies w ok t xs c o arr)

def OwnedV (w : World) (ok : Nat → Prop) (o : Obj) (u : Value) : Prop := Owned o ∧ ∀ (rd : Nat → Prop) (β : Nat → Value) (kd : Nat → KD) (al : Nat → Prop) (i : Nat), β i = u → ObjRel w ok rd β kd al i o
theorem RowV.owned {w : World} {ok : Nat → Prop} {t : Ty} {xs : List (El t)} {u : Value} (h : RowV w ok t xs u) : OwnedV w ok (.row t xs) u :=
  ⟨.inl ⟨t, xs, rfl⟩, fun rd β kd al i hb => by obtain ⟨A, c, e, h⟩ := h; exact ⟨A, c, by rw [hb, e], h⟩⟩
/-- results as they are packed: us, the cells; vs, the rows' handles; idx, the rows that they were -/
structure Packed (w : World) (okx : Nat → Prop) (mem : List Obj) (β : Nat → Value) (r : RT) (x : r.El) (us vs : List Value) (idx : List (Option Nat)) : Prop where
  vlen : vs.length = ownCount r
  ilen : idx.length = ownCount r
  rel : ∀ (n : Nat) (rd : Nat → Prop) (β' : Nat → Value) (kd : Nat → KD) (al : Nat → Prop), (∀ (k : Nat) u, vs[k]? = some u → β' (n + k) = u ∧ al (n + k)) → RelL w okx rd β' kd al (packRT r x n).1 us
  rows : ∀ (n k : Nat) o u, (packRT r x n).2[k]? = some o → vs[k]? = some u → OwnedV w okx o u ∧ ∀ b, ownB o u = some b → ∃ i, idx[k]? = some (some i) ∧ own mem β i = some b

section
variable {P : Program} {w : World} {ok rd okx rdx Lp : Nat → Prop} {β : Nat → Value} {mem : List Obj} {al : Nat → Prop}

theorem hand_datas {β0 : Nat → Value} (H : Hand w ok rd β mem mem al okx rdx Lp) : ∀ {cs cs' : List CV} {us : List Value}, (dataCs cs).run1 mem = some cs' → (∀ i ∈ rowsD cs, Lp i) → RelL w ok rd β (kds mem) al cs us → RelL w okx rdx β0 noKd noAl cs' us
  | [], cs', us, hr, _, hl => by
    obtain rfl := ret_run1 hr
    exact ⟨hl.1, fun j c u hj => by simp at hj⟩
  | c :: r, cs', us, hr, hrow, hl => by
    obtain ⟨c1, h1, hr⟩ := bind_run1 hr
    obtain ⟨r1, h2, hr⟩ := bind_run1 hr
    obtain rfl := ret_run1 hr
    obtain ⟨v, q, rfl, hc, hq⟩ := hl.head
    have hsub : ∀ i, (i ∈ rowsD [c] ∨ i ∈ rowsD r) → i ∈ rowsD (c :: r) := by
      intro i hi
      cases c <;> simp_all [rowsD]
    exact .cons (hand_data H h1 (fun i hi => hrow i (hsub i (.inl hi))) hc) (hand_datas H h2 (fun i hi => hrow i (hsub i (.inr hi))) hq)

theorem RowV.mono {ok' : Nat → Prop} {t : Ty} {xs : List (El t)} {u : Value} (h : RowV w ok t xs u) (ho : ∀ b, ok b → ok' b) : RowV w ok' t xs u := by
  obtain ⟨A, c, hb, h⟩ := h
  refine ⟨A, c, hb, ?_⟩
  rcases h with h | ⟨b, o, arr, T, e, hh, h0, hle, hsz, hr⟩
  · exact .inl h
  · exact .inr ⟨b, o, arr, T, e, hh, h0, hle, hsz, hr.mono (fun _ _ => rfl) ho⟩

theorem unpack_sound (H : Hand w ok rd β mem mem al okx rdx Lp) : ∀ (r : RT) (cs : List CV) (us : List Value) (g : Got r.El), RelL w ok rd β (kds mem) al cs us → unpack mem r cs = some g → (∀ i ∈ g.read, Lp i) →
    ∃ us1 us2 vs idx, us = us1 ++ us2 ∧ RelL w ok rd β (kds mem) al g.rest us2 ∧ g.owned = idx.filterMap (fun x => x) ∧ Packed w okx mem β r g.x us1 vs idx
  | .ty t, cs, us, g, hl, hu, hL => by
    unfold unpack at hu
    split at hu
    · rename_i ps hps
      split at hu
      · rename_i x hx
        simp at hu
        subst hu
        have h1 := hl.take t.size
        have h2 := hand_datas (β0 := β) H hps hL h1
        have h3 := rel_decAll hx h2
        refine ⟨us.take t.size, us.drop t.size, [], [], (List.take_append_drop _ _).symm, hl.drop _, rfl, rfl, rfl, fun n rd β' kd al _ => rel_enc h3, fun n k o u hk => ?_⟩
        simp [packRT] at hk
      · cases hu
    · cases hu
  | .own t, [], us, g, hl, hu, hL => by cases hu
  | .own t, c :: cs, us, g, hl, hu, hL => by
    obtain ⟨u, q, rfl, hc, hq⟩ := hl.head
    unfold unpack at hu
    split at hu
    · rename_i xs is ht
      simp at hu
      subst hu
      have fin : ∀ (i? : Option Nat), is = [i?].filterMap (fun x => x) → RowV w okx t xs u → (∀ b, ownB (.row t xs) u = some b → ∃ i, i? = some i ∧ own mem β i = some b) →
          ∃ us1 us2 vs idx, u :: q = us1 ++ us2 ∧ RelL w ok rd β (kds mem) al cs us2 ∧ is = idx.filterMap (fun x => x) ∧ Packed w okx mem β (.own t) xs us1 vs idx := by
        intro i? h1 h2 h3
        refine ⟨[u], q, [u], [i?], rfl, hq, h1, rfl, rfl, fun n rd β' kd al hv => ?_, fun n k o u' hk hu => ?_⟩
        · obtain ⟨h4, h5⟩ := hv 0 u rfl
          refine .cons (.osl n u h5 (fun _ => h4.symm) ?_) .nil
          obtain ⟨A, c', e, _⟩ := h2
          rw [e]
          rfl
        · cases k with
          | zero =>
            simp [packRT] at hk hu
            subst hk
            subst hu
            refine ⟨h2.owned, fun b hb => ?_⟩
            obtain ⟨i, h6, h7⟩ := h3 b hb
            exact ⟨i, by simp [h6], h7⟩
          | succ k => simp [packRT] at hk
      unfold takeOwn at ht
      split at ht
      · simp at ht
        obtain ⟨rfl, rfl⟩ := ht
        cases hc
        exact fin none rfl ⟨none, 0, rfl, .inl ⟨rfl, rfl⟩⟩ fun b hb => by simp [ownB] at hb
      · rename_i i
        split at ht
        · rename_i t' xs' hm
          split at ht
          · rename_i ys hy
            simp at ht
            obtain ⟨rfl, rfl⟩ := ht
            obtain ⟨rfl, rfl⟩ := decS_spec hy
            have hu : u = β i := hc.osl_inv' (by show (mem.getD i .dead).kd ≠ _; rw [hm]; simp [Obj.kd])
            have hob := H.obj i
            rw [hm] at hob
            subst hu
            refine fin (some i) rfl ?_ fun b hb => ⟨i, rfl, by unfold own; rw [hm]; exact hb⟩
            exact RowV.mono hob H.hok
          · cases ht
        · cases ht
      · rename_i i o n
        split at ht
        · rename_i t' xs' hm
          split at ht
          · rename_i ys hy
            cases hle : decide (o + n ≤ ys.length) with
            | false => rw [hle] at ht; cases ht
            | true =>
            rw [hle] at ht
            simp only [cond, Option.some.injEq, Prod.mk.injEq] at ht
            obtain ⟨rfl, rfl⟩ := ht
            replace hle : o + n ≤ ys.length := by simpa using hle
            obtain ⟨rfl, rfl⟩ := decS_spec hy
            obtain ⟨A, n', cp, A', hb, rfl, hcp, hA⟩ : ∃ A n' c A', β i = .slice A n' c ∧ u = .slice A' n (c - o) ∧ o + n ≤ c ∧ (∀ b q, A = some ⟨b, q, none⟩ → c ≠ o → A' = some ⟨b, q + o * t'.size, none⟩) := by
              cases hc with
              | ovw _ _ _ _ hi hp h1 => exact hp t' (by show (mem.getD i .dead).kd = _; rw [hm]; rfl)
            have hob := H.obj i
            rw [hm] at hob
            obtain ⟨A2, c2, hb2, hob⟩ := hob
            rw [hb] at hb2
            cases hb2
            have hlen : ((ys.drop o).take n).length = n := by simp; omega
            by_cases hc0 : cp = o
            · have hn : n = 0 := by omega
              subst hn
              refine fin (some i) rfl ⟨A', 0, by simp [hc0], .inl ⟨by simp, rfl⟩⟩ fun b hb => ?_
              rw [hc0, Nat.sub_self] at hb
              cases A' <;> simp [ownB] at hb
            · rcases hob with ⟨_, rfl⟩ | ⟨bb, q0, arr, T, rfl, hh, h0, hle2, hsz, hrows⟩
              · omega
              · have hAe := hA bb q0 rfl hc0
                subst hAe
                refine fin (some i) rfl ⟨_, cp - o, by rw [hlen], .inr ⟨bb, q0 + o * t'.size, arr, T, rfl, hh, by omega, by rw [hlen]; omega, ?_, lies_of (fun k x hk => ?_) ?_⟩⟩ fun b hb2 => ⟨i, rfl, ?_⟩
                · have := Nat.sub_mul cp o t'.size
                  have := Nat.mul_le_mul_right t'.size (show o ≤ cp by omega)
                  omega
                · have hk' : ys[o + k]? = some x := by
                    rw [List.getElem?_take] at hk
                    split at hk
                    · rwa [List.getElem?_drop] at hk
                    · cases hk
                  obtain ⟨us, a1, a2, a3⟩ := hrows _ x hk'
                  refine ⟨us, a1, RepE.mono (fun _ _ => rfl) H.hok a2, fun j u hj => ?_⟩
                  have := a3 j u hj
                  rw [Nat.add_mul] at this
                  rw [← this]
                  congr 1
                  omega
                · obtain ⟨sp, s1, s2⟩ := hrows.tail (m := o + n) (q := 0) (arr' := arr) (by omega) (by omega) fun _ _ => rfl
                  refine ⟨sp, by rw [hlen]; omega, fun k x hk => ?_⟩
                  obtain ⟨us, a1, a2, a3⟩ := s2 k x hk
                  refine ⟨us, a1, RepE.mono (fun _ _ => rfl) H.hok a2, fun j u hj => ?_⟩
                  have := a3 j u hj
                  rw [← this, hlen]
                  congr 1
                  have e1 : (o + n + k) * t'.size = o * t'.size + (n + k) * t'.size := by rw [← Nat.add_mul]; congr 1; omega
                  omega
                · unfold own
                  rw [hm, hb]
                  simp only [ownB, if_neg (show ¬ cp - o = 0 by omega)] at hb2
                  simp only [ownB, if_neg (show ¬ cp = 0 by omega)]
                  exact hb2
          · cases ht
        · cases ht
      · cases ht
    · cases hu
  | .cat a b, cs, us, g, hl, hu, hL => by
    unfold unpack at hu
    split at hu
    · rename_i ga ha
      split at hu
      · rename_i gb hb
        simp at hu
        subst hu
        obtain ⟨ua, u2, va, ia, rfl, hr2, ho1, hp1⟩ := unpack_sound H a cs us ga hl ha fun i hi => hL i (by simp [hi])
        obtain ⟨ub, u3, vb, ib, rfl, hr3, ho2, hp2⟩ := unpack_sound H b ga.rest u2 gb hr2 hb fun i hi => hL i (by simp [hi])
        refine ⟨ua ++ ub, u3, va ++ vb, ia ++ ib, by simp, hr3, by simp [ho1, ho2], by simp [hp1.vlen, hp2.vlen, ownCount], by simp [hp1.ilen, hp2.ilen, ownCount], fun n rd β' kd al hv => ?_, fun n k o u hk hu => ?_⟩
        · simp only [packRT]
          refine (hp1.rel n rd β' kd al fun k u hk => hv k u ?_).append (hp2.rel _ rd β' kd al fun k u hk => ?_)
          · rw [List.getElem?_append_left (List.getElem?_eq_some_iff.1 hk).1]; exact hk
          · have := hv (va.length + k) u (by rw [List.getElem?_append_right (by omega)]; simpa using hk)
            rw [packRT_count, ← hp1.vlen, Nat.add_assoc]
            exact this
        · simp only [packRT] at hk
          by_cases hlt : k < va.length
          · rw [List.getElem?_append_left (by rw [packRT_count, ← hp1.vlen]; exact hlt)] at hk
            rw [List.getElem?_append_left hlt] at hu
            obtain ⟨h1, h2⟩ := hp1.rows n k o u hk hu
            refine ⟨h1, fun b hb => ?_⟩
            obtain ⟨i, h3, h4⟩ := h2 b hb
            exact ⟨i, by rw [List.getElem?_append_left (by rw [hp1.ilen, ← hp1.vlen]; exact hlt)]; exact h3, h4⟩
          · rw [List.getElem?_append_right (by rw [packRT_count, ← hp1.vlen]; omega), packRT_count, ← hp1.vlen] at hk
            rw [List.getElem?_append_right (by omega)] at hu
            obtain ⟨h1, h2⟩ := hp2.rows _ _ o u hk hu
            refine ⟨h1, fun b hb => ?_⟩
            obtain ⟨i, h3, h4⟩ := h2 b hb
            exact ⟨i, by rw [List.getElem?_append_right (by rw [hp1.ilen, ← hp1.vlen]; omega), hp1.ilen, ← hp1.vlen]; exact h3, h4⟩
      · cases hu
    · cases hu
  | .nothing, cs, us, g, hl, hu, hL => by
    simp [unpack] at hu
    subst hu
    exact ⟨[], us, [], [], rfl, hl, rfl, rfl, rfl, fun n rd β' kd al _ => ⟨rfl, fun j c u hj => by simp [packRT] at hj⟩, fun n k o u hk => by simp [packRT] at hk⟩
  | .keep q, cs, us, g, hl, hu, hL => by
    unfold unpack at hu
    split at hu
    · rename_i r hr
      simp at hu
      subst hu
      obtain ⟨ty, rfl, rfl⟩ := unpackK_spec hr
      obtain ⟨u, us2, rfl, hc, hr⟩ := hl.head
      exact ⟨[u], us2, [], [], rfl, hr, rfl, rfl, rfl, fun n rd β' kd al _ => .cons (.slf ty u (hc.one (by intro e; cases e))) .nil, fun n k o u hk => by simp [packRT] at hk⟩
    · cases hu
  | .map kt vt g b, [], us, got, hl, hu, hL => by cases hu
  | .map kt vt g b, c :: cs, us, got, hl, hu, hL => by
    obtain ⟨u, q, rfl, hc, hq⟩ := hl.head
    unfold unpack at hu
    split at hu
    · rename_i es is ht
      simp at hu
      subst hu
      unfold takeMap at ht
      split at ht
      · rename_i i
        split at ht
        · rename_i kt' vt' g' es' tidy hm
          cases hgb : (g' == g && tidy == b) with
          | false => rw [hgb] at ht; cases ht
          | true =>
          rw [hgb] at ht
          simp only [cond] at ht
          simp only [Bool.and_eq_true, beq_iff_eq] at hgb
          obtain ⟨hg1, hg2⟩ := hgb
          subst hg1
          subst hg2
          split at ht
          · rename_i es2 he
            simp at ht
            obtain ⟨rfl, rfl⟩ := ht
            obtain ⟨e1, e2, e3⟩ := decM_spec he
            subst e1
            subst e2
            simp only at e3
            subst e3
            have hu : u = β i := hc.osl_inv' (by show (mem.getD i .dead).kd ≠ _; rw [hm]; simp [Obj.kd])
            have hob := H.obj i
            rw [hm] at hob
            have hown : Owned (.map kt' vt' g' es2 tidy) := .inr ⟨_, _, _, _, _, rfl⟩
            have hone : u.oneCell' = true := by
              obtain ⟨r, arr, clock, e, _⟩ := hob
              rw [hu, e]; rfl
            refine ⟨[u], q, [u], [some i], rfl, hq, rfl, rfl, rfl, fun n rd β' kd al hv => ?_, fun n k o u' hk hu' => ?_⟩
            · obtain ⟨h4, h5⟩ := hv 0 u rfl
              exact .cons (.osl n u h5 (fun _ => h4.symm) hone) .nil
            · cases k with
              | zero =>
                simp [packRT] at hk hu'
                subst hk
                subst hu'
                refine ⟨⟨hown, fun rd β2 kd al j hb => hown.move hob (by rw [hb, hu]) H.hok⟩, fun b hb => ⟨i, rfl, ?_⟩⟩
                unfold own
                rw [hm, ← hu]
                exact hb
              | succ k => simp [packRT] at hk
          · cases ht
        · cases ht
      · cases ht
    · cases hu
/-- cells that are known in their own variable alone were so, or nil -/
theorem enc_noslf (t : Ty) (x : El t) : ∀ c ∈ enc t x, ∀ T, c ≠ .slf T := by
  intro c hc T e
  subst e
  have : ∀ (t : Ty) (x : El t), CV.slf T ∉ enc t x := by
    intro t
    induction t with
    | bool => intro x h; simp [enc] at h
    | int k => intro x h; simp [enc] at h
    | str => intro x h; simp [enc] at h
    | unit => intro x h; simp [enc] at h
    | pair a b iha ihb =>
      intro x h
      simp only [enc, List.mem_append] at h
      exact h.elim (iha x.1) (ihb x.2)
    | slice t => intro x h; simp [enc] at h
  exact this t x hc
theorem unpack_slf (mem : List Obj) : ∀ (r : RT) (cs : List CV) (g : Got r.El) (n : Nat), unpack mem r cs = some g → g.rest = cs.drop (packRT r g.x n).1.length ∧ ∀ (j : Nat) (T : TypeId), (packRT r g.x n).1[j]? = some (CV.slf T) → cs[j]? = some (CV.slf T)
  | .ty t, cs, g, n, hu => by
    unfold unpack at hu
    split at hu
    · split at hu
      · simp at hu
        subst hu
        exact ⟨by simp [packRT, enc_length], fun j T hj => absurd rfl (enc_noslf t _ _ (List.mem_of_getElem? hj) T)⟩
      · cases hu
    · cases hu
  | .own t, [], g, n, hu => by cases hu
  | .own t, c :: cs, g, n, hu => by
    unfold unpack at hu
    split at hu
    · simp at hu
      subst hu
      refine ⟨by simp [packRT], fun j T hj => ?_⟩
      cases j <;> simp [packRT] at hj
    · cases hu
  | .cat a b, cs, g, n, hu => by
    unfold unpack at hu
    split at hu
    · rename_i ga ha
      split at hu
      · rename_i gb hb
        simp at hu
        subst hu
        obtain ⟨e1, e2⟩ := unpack_slf mem a cs ga n ha
        obtain ⟨e3, e4⟩ := unpack_slf mem b ga.rest gb (n + (packRT a ga.x n).2.length) hb
        refine ⟨?_, fun j T hj => ?_⟩
        · simp only [packRT, List.length_append]
          rw [e3, e1, List.drop_drop]
        · simp only [packRT] at hj
          by_cases hlt : j < (packRT a ga.x n).1.length
          · rw [List.getElem?_append_left hlt] at hj
            exact e2 j T hj
          · rw [List.getElem?_append_right (by omega)] at hj
            have := e4 _ T hj
            rw [e1, List.getElem?_drop, show (packRT a ga.x n).1.length + (j - (packRT a ga.x n).1.length) = j by omega] at this
            exact this
      · cases hu
    · cases hu
  | .nothing, cs, g, n, hu => by
    simp [unpack] at hu
    subst hu
    exact ⟨by simp [packRT], fun j T hj => by simp [packRT] at hj⟩
  | .keep q, cs, g, n, hu => by
    unfold unpack at hu
    split at hu
    · rename_i r hr
      simp at hu
      subst hu
      obtain ⟨ty, rfl, rfl⟩ := unpackK_spec hr
      refine ⟨by simp [packRT], fun j T hj => ?_⟩
      cases j with
      | zero => simpa [packRT] using hj
      | succ j => simp [packRT] at hj
    · cases hu
  | .map kt vt g b, [], got, n, hu => by cases hu
  | .map kt vt g b, c :: cs, got, n, hu => by
    unfold unpack at hu
    split at hu
    · simp at hu
      subst hu
      refine ⟨by simp [packRT], fun j T hj => ?_⟩
      cases j <;> simp [packRT] at hj
    · cases hu
theorem unpackVD_slf (mem : List Obj) {d : VD} {v : V} {g : Got d.rt.El} (n : Nat) (hu : unpackVD mem d v = some g) : ∀ (j : Nat) (T : TypeId), (packVD d g.x n).1.cells[j]? = some (CV.slf T) → v.cells[j]? = some (CV.slf T) := by
  cases d with
  | agg r =>
    cases v <;> simp only [unpackVD] at hu <;> try (cases hu; done)
    rename_i cs
    split at hu
    · rename_i x a b hx
      simp at hu
      subst hu
      exact (unpack_slf mem r cs _ n hx).2
    · cases hu
  | one r =>
    cases v with
    | agg cs => simp [unpackVD] at hu
    | tup vs => simp [unpackVD] at hu
    | one c =>
      intro j T hj
      simp only [unpackVD] at hu
      split at hu
      · rename_i x a b hx
        obtain rfl := Option.some.inj hu
        have key := (unpack_slf mem r (dropC r [c]) _ n hx).2
        have hj2 : (match packRT r x n with | ([c], o) => (V.one c, o) | (_, o) => (uv, o)).1.cells[j]? = some (CV.slf T) := hj
        split at hj2
        · rename_i c' o hp
          have := key j T (by
            show (packRT r x n).1[j]? = _
            rw [hp]
            exact hj2)
          rcases dropC_cases r [c] with ⟨_, e⟩ | e
          · rw [e] at this; simp at this
          · rw [e] at this; exact this
        · cases j <;> simp [V.cells] at hj2
      · cases hu
end
end Go.Sk

/- Results: all of them at once. -/
set_option linter.unusedSimpArgs false
set_option linter.unusedVariables false
set_option linter.unusedSectionVars false
namespace Go.Sk
open Go

structure PackedV (w : World) (okx : Nat → Prop) (mem : List Obj) (β : Nat → Value) (d : VD) (x : d.rt.El) (cv : Value) (vs : List Value) (idx : List (Option Nat)) : Prop where
  vlen : vs.length = ownCount d.rt
  ilen : idx.length = ownCount d.rt
  rel : ∀ (n : Nat) (rd : Nat → Prop) (β' : Nat → Value) (kd : Nat → KD) (al : Nat → Prop), (∀ (k : Nat) u, vs[k]? = some u → β' (n + k) = u ∧ al (n + k)) → RelV w okx rd β' kd al (packVD d x n).1 cv
  rows : ∀ (n k : Nat) o u, (packVD d x n).2[k]? = some o → vs[k]? = some u → OwnedV w okx o u ∧ ∀ b, ownB o u = some b → ∃ i, idx[k]? = some (some i) ∧ own mem β i = some b
structure PackedVs (w : World) (okx : Nat → Prop) (mem : List Obj) (β : Nat → Value) (ds : List VD) (x : ElV ds) (cvs : List Value) (vs : List Value) (idx : List (Option Nat)) : Prop where
  vlen : vs.length = ownCounts ds
  ilen : idx.length = ownCounts ds
  rel : ∀ (n : Nat) (rd : Nat → Prop) (β' : Nat → Value) (kd : Nat → KD) (al : Nat → Prop), (∀ (k : Nat) u, vs[k]? = some u → β' (n + k) = u ∧ al (n + k)) →
    cvs.length = (packVs ds x n).1.length ∧ ∀ (j : Nat) v cv, (packVs ds x n).1[j]? = some v → cvs[j]? = some cv → RelV w okx rd β' kd al v cv
  rows : ∀ (n k : Nat) o u, (packVs ds x n).2[k]? = some o → vs[k]? = some u → OwnedV w okx o u ∧ ∀ b, ownB o u = some b → ∃ i, idx[k]? = some (some i) ∧ own mem β i = some b

section
variable {P : Program} {w : World} {ok rd okx rdx Lp : Nat → Prop} {β : Nat → Value} {mem : List Obj} {al : Nat → Prop}

theorem unpackVD_sound (H : Hand w ok rd β mem mem al okx rdx Lp) (d : VD) (v : V) (cv : Value) (g : Got d.rt.El) (hv : RelV w ok rd β (kds mem) al v cv) (hu : unpackVD mem d v = some g) (hL : ∀ i ∈ g.read, Lp i) :
    ∃ vs idx, g.owned = idx.filterMap (fun x => x) ∧ PackedV w okx mem β d g.x cv vs idx := by
  have key : ∀ (r : RT) (cs : List CV) (us : List Value) (g : Got r.El), RelL w ok rd β (kds mem) al cs us → unpack mem r cs = some g → g.rest = [] → (∀ i ∈ g.read, Lp i) → ∃ vs idx, g.owned = idx.filterMap (fun x => x) ∧ Packed w okx mem β r g.x us vs idx := by
    intro r cs us g hl hu hr hL
    obtain ⟨u1, u2, vs, idx, rfl, h2, h3, h4⟩ := unpack_sound H r cs us g hl hu hL
    rw [hr] at h2
    have : u2 = [] := by have := h2.1; simpa using this
    subst this
    rw [List.append_nil]
    exact ⟨vs, idx, h3, h4⟩
  cases d with
  | one r =>
    cases v <;> try (cases hu; done)
    rename_i c
    simp only [unpackVD] at hu
    split at hu
    · rename_i x a b he
      simp at hu
      subst hu
      obtain ⟨vs, idx, us0, h1, h2⟩ : ∃ vs idx us0, a = idx.filterMap (fun x => x) ∧ Packed w okx mem β r x us0 vs idx ∧ (us0 = [cv] ∨ r = .nothing) := by
        rcases dropC_cases r [c] with ⟨e1, e2⟩ | e2
        · rw [e2] at he
          obtain ⟨vs, idx, h1, h2⟩ := key r [] [] _ .nil he rfl hL
          exact ⟨vs, idx, [], h1, h2, .inr e1⟩
        · rw [e2] at he
          obtain ⟨vs, idx, h1, h2⟩ := key r [c] [cv] _ (.cons hv.one' .nil) he rfl hL
          exact ⟨vs, idx, [cv], h1, h2, .inl rfl⟩
      obtain ⟨h2, hus⟩ := h2
      have hobj : ∀ n, (packVD (.one r) x n).2 = (packRT r x n).2 := fun n => packVD_obj _ _ _
      refine ⟨vs, idx, h1, h2.vlen, h2.ilen, fun n rd β' kd al hk => ?_, fun n k o u hk hu => h2.rows n k o u (by rw [← hobj]; exact hk) hu⟩
      have := h2.rel n rd β' kd al hk
      show RelV _ _ _ _ _ _ (match packRT r x n with | ([c], o) => (V.one c, o) | (_, o) => (uv, o)).1 cv
      rcases hus with rfl | rfl
      · generalize packRT r x n = q at this
        obtain ⟨l, o⟩ := q
        match l, this with
        | [c'], h => exact .one _ _ (h.2 0 c' cv rfl rfl)
        | [], h => exact .one _ _ (.undef _)
        | _ :: _ :: _, h => exact .one _ _ (.undef _)
      · exact .one _ _ (.undef _)
    · cases hu
  | agg r =>
    cases v <;> try (cases hu; done)
    rename_i cs
    simp only [unpackVD] at hu
    split at hu
    · rename_i x a b he
      simp at hu
      subst hu
      cases hv with
      | agg _ us hl hr =>
        obtain ⟨vs, idx, h1, h2⟩ := key r cs us _ ⟨hl, hr⟩ he rfl hL
        refine ⟨vs, idx, h1, h2.vlen, h2.ilen, fun n rd β' kd al hk => ?_, fun n k o u hk hu => h2.rows n k o u hk hu⟩
        have := h2.rel n rd β' kd al hk
        exact .agg _ us this.1 this.2
    · cases hu

theorem unpackVs_sound (H : Hand w ok rd β mem mem al okx rdx Lp) : ∀ (ds : List VD) (L : List V) (cvs : List Value) (g : Got (ElV ds)), cvs.length = L.length → (∀ (j : Nat) v cv, L[j]? = some v → cvs[j]? = some cv → RelV w ok rd β (kds mem) al v cv) →
    unpackVs mem ds L = some g → (∀ i ∈ g.read, Lp i) → ∃ vs idx, g.owned = idx.filterMap (fun x => x) ∧ PackedVs w okx mem β ds g.x cvs vs idx
  | [], [], cvs, g, hl, hr, hu, hL => by
    simp [unpackVs] at hu
    subst hu
    have : cvs = [] := List.eq_nil_of_length_eq_zero (by simpa using hl)
    subst this
    exact ⟨[], [], rfl, rfl, rfl, fun n rd β' kd al _ => ⟨rfl, fun j v cv hj => by simp [packVs] at hj⟩, fun n k o u hk => by simp [packVs] at hk⟩
  | [], _ :: _, cvs, g, hl, hr, hu, hL => by cases hu
  | [d], [], cvs, g, hl, hr, hu, hL => by cases hu
  | [d], [v], cvs, g, hl, hr, hu, hL => by
    match cvs, hl with
    | [cv], _ =>
      obtain ⟨vs, idx, h1, h2⟩ := unpackVD_sound H d v cv g (hr 0 v cv rfl rfl) hu hL
      have e : ∀ n, packVs [d] g.x n = ([(packVD d g.x n).1], (packVD d g.x n).2) := fun n => rfl
      refine ⟨vs, idx, h1, by rw [h2.vlen]; simp [ownCounts], by rw [h2.ilen]; simp [ownCounts], fun n rd β' kd al hk => ⟨rfl, fun j v' cv' hj hc => ?_⟩, fun n k o u hk hu => h2.rows n k o u hk hu⟩
      cases j with
      | zero =>
        simp [packVs] at hj hc
        subst hj
        subst hc
        exact h2.rel n rd β' kd al hk
      | succ j => simp [packVs] at hj
  | [d], _ :: _ :: _, cvs, g, hl, hr, hu, hL => by cases hu
  | d :: e :: r, [], cvs, g, hl, hr, hu, hL => by cases hu
  | d :: e :: r, v :: L, cvs, g, hl, hr, hu, hL => by
    cases cvs with
    | nil => simp at hl
    | cons cv cvs =>
      simp only [unpackVs] at hu
      split at hu
      · rename_i g1 g2 hg1 hg2
        simp at hu
        subst hu
        obtain ⟨va, ia, a1, a2⟩ := unpackVD_sound H d v cv g1 (hr 0 v cv rfl rfl) hg1 fun i hi => hL i (by simp [hi])
        obtain ⟨vb, ib, b1, b2⟩ := unpackVs_sound H (e :: r) L cvs g2 (by simpa using hl) (fun j v cv hj hc => hr (j + 1) v cv (by simpa using hj) (by simpa using hc)) hg2 fun i hi => hL i (by simp [hi])
        have hcl : ∀ n, (packVD d g1.x n).2.length = va.length := fun n => by rw [packVD_obj, packRT_count, a2.vlen]
        refine ⟨va ++ vb, ia ++ ib, by simp [a1, b1], by simp [a2.vlen, b2.vlen, ownCounts], by simp [a2.ilen, b2.ilen, ownCounts], fun n rd β' kd al hk => ?_, fun n k o u hk hu => ?_⟩
        · have ha := a2.rel n rd β' kd al fun k u hu => hk k u (by rw [List.getElem?_append_left (List.getElem?_eq_some_iff.1 hu).1]; exact hu)
          have hb := b2.rel (n + (packVD d g1.x n).2.length) rd β' kd al fun k u hu => by
            have := hk (va.length + k) u (by rw [List.getElem?_append_right (by omega)]; simpa using hu)
            rw [hcl, Nat.add_assoc]
            exact this
          simp only [packVs]
          refine ⟨by simp [hb.1], fun j v' cv' hj hc => ?_⟩
          cases j with
          | zero =>
            simp at hj hc
            subst hj
            subst hc
            exact ha
          | succ j => exact hb.2 j v' cv' (by simpa using hj) (by simpa using hc)
        · simp only [packVs] at hk
          by_cases hlt : k < va.length
          · rw [List.getElem?_append_left (by rw [hcl]; exact hlt)] at hk
            rw [List.getElem?_append_left hlt] at hu
            obtain ⟨h1, h2⟩ := a2.rows n k o u hk hu
            refine ⟨h1, fun b hb => ?_⟩
            obtain ⟨i, h3, h4⟩ := h2 b hb
            exact ⟨i, by rw [List.getElem?_append_left (by rw [a2.ilen, ← a2.vlen]; exact hlt)]; exact h3, h4⟩
          · rw [List.getElem?_append_right (by rw [hcl]; omega), hcl] at hk
            rw [List.getElem?_append_right (by omega)] at hu
            obtain ⟨h1, h2⟩ := b2.rows _ _ o u hk hu
            refine ⟨h1, fun b hb => ?_⟩
            obtain ⟨i, h3, h4⟩ := h2 b hb
            exact ⟨i, by rw [List.getElem?_append_right (by rw [a2.ilen, ← a2.vlen]; omega), a2.ilen, ← a2.vlen]; exact h3, h4⟩
      · cases hu

theorem nodupB_spec : ∀ {l : List Nat}, nodupB l = true → l.Nodup
  | [], _ => List.nodup_nil
  | a :: r, h => by
    simp only [nodupB, Bool.and_eq_true, Bool.not_eq_true'] at h
    refine List.nodup_cons.2 ⟨fun hm => ?_, nodupB_spec h.2⟩
    rw [hasNat_spec.2 hm] at h
    cases h.1
theorem idx_inj : ∀ {idx : List (Option Nat)}, (idx.filterMap fun x => x).Nodup → ∀ {k k' i : Nat}, idx[k]? = some (some i) → idx[k']? = some (some i) → k = k'
  | [], _, k, k', i, h, _ => by simp at h
  | x :: r, hn, k, k', i, h, h' => by
    have hmem : ∀ {j : Nat}, r[j]? = some (some i) → i ∈ r.filterMap fun x => x := fun hj => List.mem_filterMap.2 ⟨some i, List.mem_of_getElem? hj, rfl⟩
    have hr : (r.filterMap fun x => x).Nodup := by
      cases x with
      | none => simpa using hn
      | some a => simp at hn; exact hn.2
    cases k with
    | zero =>
      cases k' with
      | zero => rfl
      | succ k' =>
        simp at h
        subst h
        have hn' : (i :: r.filterMap fun x => x).Nodup := by simpa using hn
        exact absurd (hmem (by simpa using h')) (List.nodup_cons.1 hn').1
    | succ k =>
      cases k' with
      | zero =>
        simp at h'
        subst h'
        have hn' : (i :: r.filterMap fun x => x).Nodup := by simpa using hn
        exact absurd (hmem (by simpa using h)) (List.nodup_cons.1 hn').1
      | succ k' =>
        have := idx_inj hr (k := k) (k' := k') (i := i) (by simpa using h) (by simpa using h')
        omega
end

theorem valsOf_tup {n : Nat} (h : n ≠ 1) (vs : List V) : valsOf n (.tup vs) = vs := by
  match n, h with
  | 0, _ => rfl
  | 1, h => exact absurd rfl h
  | n + 2, _ => rfl
theorem valsOf_one (n : Nat) (c : CV) : valsOf n (.one c) = [.one c] := by
  match n with
  | 0 => rfl
  | 1 => rfl
  | n + 2 => rfl
theorem valsOf_agg (n : Nat) (c : List CV) : valsOf n (.agg c) = [.agg c] := by
  match n with
  | 0 => rfl
  | 1 => rfl
  | n + 2 => rfl
theorem unpackVs_one {m : List Obj} : ∀ (ds : List VD) (v : V) (g : Got (ElV ds)), unpackVs m ds [v] = some g → ds.length = 1
  | [], v, g, h => by cases h
  | [_], _, _, _ => rfl
  | d :: e :: r, v, g, h => by
    simp only [unpackVs] at h
    split at h
    · rename_i h5
      cases r <;> cases h5
    · cases h

theorem unpackVs_len {m : List Obj} : ∀ (ds : List VD) (L : List V) (g : Got (ElV ds)), unpackVs m ds L = some g → L.length = ds.length
  | [], [], _, _ => rfl
  | [], _ :: _, g, h => by cases h
  | [d], [], g, h => by cases h
  | [d], [_], g, h => rfl
  | [d], _ :: _ :: _, g, h => by cases h
  | d :: e :: r, [], g, h => by cases h
  | d :: e :: r, v :: L, g, h => by
    simp only [unpackVs] at h
    split at h
    · rename_i h2
      simp [unpackVs_len (e :: r) L _ h2]
    · cases h
def SameForm (v v' : V) : Prop := (∃ c c', v = .one c ∧ v' = .one c') ∨ ∃ c c', v = .agg c ∧ v' = .agg c'
theorem unpackVD_form {m : List Obj} {d : VD} {v : V} {g : Got d.rt.El} (h : unpackVD m d v = some g) (n : Nat) : SameForm v (packVD d g.x n).1 := by
  cases d with
  | one r =>
    cases v <;> try (cases h; done)
    left
    rename_i c
    show ∃ c1 c', V.one c = V.one c1 ∧ (match packRT r g.x n with | ([c], o) => (V.one c, o) | (_, o) => (uv, o)).1 = .one c'
    generalize packRT r g.x n = q
    obtain ⟨l, o⟩ := q
    match l with
    | [c'] => exact ⟨c, c', rfl, rfl⟩
    | [] => exact ⟨c, .undef, rfl, rfl⟩
    | _ :: _ :: _ => exact ⟨c, .undef, rfl, rfl⟩
  | agg r =>
    cases v <;> try (cases h; done)
    exact .inr ⟨_, _, rfl, rfl⟩
theorem unpackVs_slf {m : List Obj} : ∀ (ds : List VD) (L : List V) (g : Got (ElV ds)), unpackVs m ds L = some g → ∀ (n j : Nat) v v', L[j]? = some v → (packVs ds g.x n).1[j]? = some v' → ∀ (p : Nat) (T : TypeId), v'.cells[p]? = some (CV.slf T) → v.cells[p]? = some (CV.slf T)
  | [], [], _, _ => fun n j v v' h => by simp at h
  | [], _ :: _, g, h => by cases h
  | [d], [], g, h => by cases h
  | [d], [v0], g, h => fun n j v v' h1 h2 p T hp => by
    cases j with
    | zero =>
      simp [packVs] at h1 h2
      subst h1
      subst h2
      exact unpackVD_slf m n h p T hp
    | succ j => simp at h1
  | [d], _ :: _ :: _, g, h => by cases h
  | d :: e :: r, [], g, h => by cases h
  | d :: e :: r, v0 :: L, g, h => fun n j v v' h1 h2 p T hp => by
    simp only [unpackVs] at h
    split at h
    · rename_i g1 g2 hg1 hg2
      simp at h
      subst h
      cases j with
      | zero =>
        simp [packVs] at h1 h2
        subst h1
        subst h2
        exact unpackVD_slf m n hg1 p T hp
      | succ j =>
        simp only [List.getElem?_cons_succ] at h1
        simp only [packVs, List.getElem?_cons_succ] at h2
        exact unpackVs_slf (e :: r) L g2 hg2 _ j v v' h1 h2 p T hp
    · cases h
theorem unpackVs_form {m : List Obj} : ∀ (ds : List VD) (L : List V) (g : Got (ElV ds)), unpackVs m ds L = some g → ∀ (n j : Nat) v v', L[j]? = some v → (packVs ds g.x n).1[j]? = some v' → SameForm v v'
  | [], [], _, _ => fun n j v v' h => by simp at h
  | [], _ :: _, g, h => by cases h
  | [d], [], g, h => by cases h
  | [d], [w], g, h => fun n j v v' h1 h2 => by
    cases j with
    | zero =>
      simp [packVs] at h1 h2
      subst h1
      subst h2
      exact unpackVD_form h n
    | succ j => simp at h1
  | [d], _ :: _ :: _, g, h => by cases h
  | d :: e :: r, [], g, h => by cases h
  | d :: e :: r, w :: L, g, h => by
    simp only [unpackVs] at h
    split at h
    · rename_i g1 g2 hg1 hg2
      simp at h
      subst h
      intro n j v v' h1 h2
      simp only [packVs] at h2
      cases j with
      | zero =>
        simp at h1 h2
        subst h1
        subst h2
        exact unpackVD_form hg1 n
      | succ j => exact unpackVs_form (e :: r) L g2 hg2 _ j v v' (by simpa using h1) (by simpa using h2)
    · cases h

section
variable {P : Program} {X : Fr} {env : List V} {mem : List Obj} {al : Nat → Prop} {tmps : Array Value} {w : World} {β : Nat → Value} {ok : Nat → Prop}

def resF (tmps : Array Value) : ResultVar → Sem Value
  | .tmp t => pure (tmps.getD t undef)
  | .cell a t => do loadVar t (← asAddr (tmps.getD a undef))
theorem results_eq (fn : Func) (tmps : Array Value) : results fn tmps = (do let vs ← fn.results.mapM (resF tmps); pure (if h : vs.size = 1 then vs[0] else .tuple vs)) := rfl
theorem resV_run (h : Inv X env mem al tmps w β ok) : ∀ (l : List ResultVar) (vs : List V), resV P ⟨env, mem⟩ l = some vs → ∃ us : List Value,
    (l.mapM (resF tmps)).run P w = .ok us w ∧ us.length = vs.length ∧
    ∀ (j : Nat) v u, vs[j]? = some v → us[j]? = some u → RelV w ok X.rd β (kds mem) al v u
  | [], vs, hr => by
    simp [resV] at hr
    subst hr
    exact ⟨[], rfl, rfl, fun j v u hj => by simp at hj⟩
  | .tmp t :: r, vs, hr => by
    simp only [resV] at hr
    cases hq : resV P ⟨env, mem⟩ r with
    | none => rw [hq] at hr; cases hr
    | some vs' =>
      rw [hq] at hr
      simp at hr
      subst hr
      obtain ⟨us, h1, h2, h3⟩ := resV_run h r vs' hq
      refine ⟨tmps.getD t undef :: us, by simp only [List.mapM_cons, Sem.run_bind, Sem.run_pure, Result.andThen_ok, h1, resF], by simp [h2], fun j v u hj hu => ?_⟩
      cases j with
      | zero =>
        simp at hj hu
        subst hj
        subst hu
        have := h.ev [] (.tmp t) none
        simpa [St.ev, Act.eval] using this
      | succ j => exact h3 j v u (by simpa using hj) (by simpa using hu)
  | .cell t ty :: r, vs, hr => by
    simp only [resV] at hr
    split at hr
    · rename_i i o n g he hn hg
      split at hr
      · rename_i cs vs' hm hq
        obtain ⟨us, h1, h2, h3⟩ := resV_run h r vs' hq
        cases hlen : (((cs.drop o).take n).length == n) with
        | false => rw [hlen] at hr; cases hr
        | true =>
          rw [hlen] at hr
          simp only [cond] at hr
          split at hr
          · rename_i v hv
            simp at hr
            subst hr
            have hev := h.ev [] (.tmp t) none
            have he' : (⟨env, mem⟩ : St).ev (.tmp t) none = .one (.ptr i o) := he
            have hev := ev_one [] h he'
            have hob := h.obj i
            rw [show (⟨env, mem⟩ : St).mem.getD i .dead = mem.getD i .dead from rfl] at hm
            rw [hm] at hob
            obtain ⟨b, us0, T, hb, hh, hl, _⟩ := hob
            obtain ⟨b', hb', hp⟩ := hev.ptr_inv (by show (mem.getD i .dead).kd = _; rw [hm]; rfl)
            rw [hb] at hb'
            simp at hb'
            subst hb'
            have hl2 := (hl.drop o).take n
            have hul : ((us0.drop o).take n).length = n := by rw [hl2.1]; simpa using hlen
            have hcell : ∀ (j : Nat) u, ((us0.drop o).take n)[j]? = some u → w.cell? ⟨b, o + j, none⟩ = some u := fun j u hj => by
              rw [List.getElem?_take] at hj
              split at hj
              · rw [List.getElem?_drop] at hj
                simp [World.cell?, hh, hj]
              · cases hj
            have htv : tmps.getD t undef = .pointer (some ⟨b, o, none⟩) := hp
            have fin : ∀ u, (loadVar ty ⟨b, o, none⟩).run P w = .ok u w → RelV w ok X.rd β (kds mem) al v u → ∃ us : List Value,
                ((ResultVar.cell t ty :: r).mapM (resF tmps)).run P w = .ok us w ∧ us.length = (v :: vs').length ∧
                ∀ (j : Nat) v' u, (v :: vs')[j]? = some v' → us[j]? = some u → RelV w ok X.rd β (kds mem) al v' u := by
              intro u hu hvu
              refine ⟨u :: us, ?_, by simp [h2], fun j v' u' hj hu' => ?_⟩
              · have hr1 : (resF tmps (.cell t ty)).run P w = .ok u w := by
                  simp only [resF, htv, asAddr, Sem.run_bind, Sem.run_pure, Result.andThen_ok, hu]
                simp only [List.mapM_cons, Sem.run_bind, Sem.run_pure, Result.andThen_ok, h1, hr1]
              · cases j with
                | zero =>
                  simp at hj hu'
                  subst hj
                  subst hu'
                  exact hvu
                | succ j => exact h3 j v' u' (by simpa using hj) (by simpa using hu')
            rcases rel_mkV (c := ⟨w, ok, X.rd, β, mem, al⟩) hv hl2 with ⟨rfl, hv'⟩ | ⟨rfl, u, hu', hv'⟩
            · exact fin _ (run_loadVar (c := ⟨w, ok, X.rd, β, mem, al⟩) hn hg hul hcell (.inl ⟨rfl, rfl⟩)) hv'
            · exact fin u (run_loadVar (c := ⟨w, ok, X.rd, β, mem, al⟩) hn hg hul hcell (.inr ⟨rfl, hu'⟩)) hv'
          · cases hr
      · cases hr
    · cases hr

theorem results_run (h : Inv X env mem al tmps w β ok) (fn : Func) {vs : List V} (hr : resV P ⟨env, mem⟩ fn.results.toList = some vs) : ∃ v, (results fn tmps).run P w = .ok v w ∧ ∃ cvs, Cvs vs.length cvs v ∧ ∀ (j : Nat) v cv, vs[j]? = some v → cvs[j]? = some cv → RelV w ok X.rd β (kds mem) al v cv := by
  obtain ⟨us, h1, h2, h3⟩ := resV_run h _ vs hr
  have hm : (fn.results.mapM (resF tmps)).run P w = .ok us.toArray w := by
    rw [Array.mapM_eq_mapM_toList]
    simp only [Sem.run_map, h1, Result.andThen_ok]
  match us, vs, h2, h3 with
  | [u], [v], _, h3 =>
    refine ⟨u, ?_, [u], ⟨rfl, fun _ => rfl, fun h => absurd rfl h⟩, h3⟩
    rw [results_eq, Sem.run_bind, hm]
    rfl
  | [], [], _, _ =>
    refine ⟨.tuple #[], ?_, [], ⟨rfl, fun h => by simp at h, fun _ => rfl⟩, fun j v cv hj => by simp at hj⟩
    rw [results_eq, Sem.run_bind, hm]
    rfl
  | u :: u2 :: us, v :: v2 :: vs, hl, h3 =>
    refine ⟨.tuple (u :: u2 :: us).toArray, ?_, u :: u2 :: us, ⟨hl, fun h => by simp at h, fun _ => rfl⟩, h3⟩
    rw [results_eq, Sem.run_bind, hm]
    rfl

/-- what the roots lead to stands for what the handles lead to -/
theorem root_vals (h : Inv X env mem al tmps w β ok) : ∀ (rs : List CV) (hs : List Value) (rvs : List V) (is : List Nat), RelL w ok X.rd β (kds mem) al rs hs → rootVs mem rs = some (rvs, is) →
    ∃ cvs : List Value, cvs.length = rvs.length ∧ hs.length = rvs.length ∧ (∀ (j : Nat) v cv, rvs[j]? = some v → cvs[j]? = some cv → RelV w ok X.rd β (kds mem) al v cv) ∧
      ∀ (k : Nat) v hv cv, rvs[k]? = some v → hs[k]? = some hv → cvs[k]? = some cv → (hv = cv ∧ ((∃ A n c, hv = .slice A n c) ∨ ∃ r, hv = .map r)) ∨
        ∃ j b us T, j ∈ is ∧ own mem β j = some b ∧ hv = .pointer (some ⟨b, 0, none⟩) ∧ w.heap[b]? = some (.cells us.toArray T (0, 0)) ∧ ((∃ c, v = .one c) ∧ us = [cv] ∨ (∃ cs, v = .agg cs) ∧ cv = .agg us.toArray) ∧ Self v.cells us b T
  | [], hs, rvs, is, hl, hr => by
    simp [rootVs] at hr
    obtain ⟨rfl, rfl⟩ := hr
    have : hs = [] := List.eq_nil_of_length_eq_zero (by simpa using hl.1)
    subst this
    exact ⟨[], rfl, rfl, fun j v cv hj => by simp at hj, fun k v hv cv hk => by simp at hk⟩
  | c0 :: r, hs, rvs, is, hl, hr => by
    obtain ⟨hv0, hs', rfl, hc0, hls⟩ := hl.head
    have step : ∀ (rvs' : List V) (is' : List Nat) (v0 : V) (cv0 : Value), rootVs mem r = some (rvs', is') → rvs = v0 :: rvs' → (∀ j ∈ is', j ∈ is) → RelV w ok X.rd β (kds mem) al v0 cv0 →
        ((hv0 = cv0 ∧ ((∃ A n c, hv0 = .slice A n c) ∨ ∃ r, hv0 = .map r)) ∨ ∃ j b us T, j ∈ is ∧ own mem β j = some b ∧ hv0 = .pointer (some ⟨b, 0, none⟩) ∧ w.heap[b]? = some (.cells us.toArray T (0, 0)) ∧ ((∃ c, v0 = .one c) ∧ us = [cv0] ∨ (∃ cs, v0 = .agg cs) ∧ cv0 = .agg us.toArray) ∧ Self v0.cells us b T) →
        ∃ cvs : List Value, cvs.length = rvs.length ∧ (hv0 :: hs').length = rvs.length ∧ (∀ (j : Nat) v cv, rvs[j]? = some v → cvs[j]? = some cv → RelV w ok X.rd β (kds mem) al v cv) ∧
          ∀ (k : Nat) v hv cv, rvs[k]? = some v → (hv0 :: hs')[k]? = some hv → cvs[k]? = some cv → (hv = cv ∧ ((∃ A n c, hv = .slice A n c) ∨ ∃ r, hv = .map r)) ∨
            ∃ j b us T, j ∈ is ∧ own mem β j = some b ∧ hv = .pointer (some ⟨b, 0, none⟩) ∧ w.heap[b]? = some (.cells us.toArray T (0, 0)) ∧ ((∃ c, v = .one c) ∧ us = [cv] ∨ (∃ cs, v = .agg cs) ∧ cv = .agg us.toArray) ∧ Self v.cells us b T := by
      intro rvs' is' v0 cv0 h1 h2 h3 h4 h5
      subst h2
      obtain ⟨cvs, e1, e2, e3, e4⟩ := root_vals h r hs' rvs' is' hls h1
      refine ⟨cv0 :: cvs, by simp [e1], by simp [e2], fun j v cv hj hc => ?_, fun k v hv cv hk hh hc => ?_⟩
      · cases j with
        | zero => simp at hj hc; subst hj; subst hc; exact h4
        | succ j => exact e3 j v cv (by simpa using hj) (by simpa using hc)
      · cases k with
        | zero => simp at hk hh hc; subst hk; subst hh; subst hc; exact h5
        | succ k =>
          rcases e4 k v hv cv (by simpa using hk) (by simpa using hh) (by simpa using hc) with h6 | ⟨j, b, us, T, h6, h7⟩
          · exact .inl h6
          · exact .inr ⟨j, b, us, T, h3 j h6, h7⟩
    unfold rootVs at hr
    split at hr
    · simp at hr; rename_i e; cases e
    · rename_i j r' e
      simp at e
      obtain ⟨rfl, rfl⟩ := e
      split at hr
      · rename_i c vs is' hm hq
        simp at hr
        obtain ⟨rfl, rfl⟩ := hr
        obtain ⟨b, hb, rfl⟩ := hc0.ptr_inv (by show (mem.getD j .dead).kd = _; rw [hm]; rfl)
        have hob := h.obj j
        rw [hm] at hob
        obtain ⟨b', us, T, g1, g2, g3, g4⟩ := hob
        rw [hb] at g1
        simp at g1
        subst g1
        obtain ⟨u, q, rfl, hcu, hq'⟩ := g3.head
        have : q = [] := by have := hq'.1; simpa using this
        subst this
        exact step vs is' (.one c) u hq rfl (fun j h => by simp [h]) (.one _ _ hcu) (.inr ⟨j, b, [u], T, by simp, by unfold own; rw [hm, hb]; rfl, rfl, g2, .inl ⟨⟨c, rfl⟩, rfl⟩, g4⟩)
      · rename_i cs vs is' hne hm hq
        simp at hr
        obtain ⟨rfl, rfl⟩ := hr
        obtain ⟨b, hb, rfl⟩ := hc0.ptr_inv (by show (mem.getD j .dead).kd = _; rw [hm]; rfl)
        have hob := h.obj j
        rw [hm] at hob
        obtain ⟨b', us, T, g1, g2, g3, g4⟩ := hob
        rw [hb] at g1
        simp at g1
        subst g1
        exact step vs is' (.agg cs) (.agg us.toArray) hq rfl (fun j h => by simp [h]) (.agg _ us g3.1 g3.2) (.inr ⟨j, b, us, T, by simp, by unfold own; rw [hm, hb]; rfl, rfl, g2, .inr ⟨⟨cs, rfl⟩, rfl⟩, g4⟩)
      · cases hr
    · rename_i j r' e
      simp at e
      obtain ⟨rfl, rfl⟩ := e
      split at hr
      · rename_i t xs vs is' hm hq
        simp at hr
        obtain ⟨rfl, rfl⟩ := hr
        have hv := hc0.osl_inv (by show (mem.getD j .dead).kd ≠ _; rw [hm]; simp [Obj.kd])
        have hob := h.obj j
        rw [hm] at hob
        obtain ⟨A, c, g1, _⟩ := hob
        exact step vs is' (.one (.osl j)) hv0 hq rfl (fun j h => h) (.one _ _ hc0) (.inl ⟨rfl, .inl ⟨A, _, c, by rw [hv, g1]⟩⟩)
      · rename_i kt vt g es b vs is' hm hq
        simp at hr
        obtain ⟨rfl, rfl⟩ := hr
        have hv := hc0.osl_inv (by show (mem.getD j .dead).kd ≠ _; rw [hm]; simp [Obj.kd])
        have hob := h.obj j
        rw [hm] at hob
        obtain ⟨r, arr, clock, g1, _⟩ := hob
        exact step vs is' (.one (.osl j)) hv0 hq rfl (fun j h => h) (.one _ _ hc0) (.inl ⟨rfl, .inr ⟨_, by rw [hv, g1]⟩⟩)
      · cases hr
    · cases hr

theorem fin_post (h : Inv X env mem al tmps w β ok) {ρ : RD} {x : ρ.El} {q : V} {v : Value} (hv : RelV w ok X.rd β (kds mem) al q v) (hx : finR ρ q mem = some x) : PostM X ρ.vals ρ.roots x v w := by
  obtain ⟨ds, nr⟩ := ρ
  simp only [finR] at hx
  split at hx
  · rename_i rvs is hrv
    split at hx
    · rename_i g hg
      cases hc : (nodupB g.owned && !meets g.owned g.read && !meets is g.owned && !meets is g.read && rvs.length == nr) with
      | false => rw [hc] at hx; cases hx
      | true =>
      rw [hc] at hx
      simp only [cond, Option.some.injEq] at hx
      subst hx
      simp only [Bool.and_eq_true, Bool.not_eq_true', beq_iff_eq] at hc
      obtain ⟨⟨⟨⟨hnd, hmt⟩, hmi⟩, hmr⟩, hnr⟩ := hc
      have hlen := unpackVs_len _ _ _ hg
      simp only [List.length_append] at hlen
      obtain ⟨hs, cvsR, hgh, hR1, hR2, hR3, hR4⟩ : ∃ hs cvsR : List Value, (nr = 0 ∨ X.gh = .tuple hs.toArray) ∧ cvsR.length = rvs.length ∧ hs.length = rvs.length ∧ (∀ (j : Nat) v cv, rvs[j]? = some v → cvsR[j]? = some cv → RelV w ok X.rd β (kds mem) al v cv) ∧
          ∀ (k : Nat) v hv cv, rvs[k]? = some v → hs[k]? = some hv → cvsR[k]? = some cv → (hv = cv ∧ ((∃ A n c, hv = .slice A n c) ∨ ∃ r, hv = .map r)) ∨
            ∃ j b us T, j ∈ is ∧ own mem β j = some b ∧ hv = .pointer (some ⟨b, 0, none⟩) ∧ w.heap[b]? = some (.cells us.toArray T (0, 0)) ∧ ((∃ c, v = .one c) ∧ us = [cv] ∨ (∃ cs, v = .agg cs) ∧ cv = .agg us.toArray) ∧ Self v.cells us b T := by
        cases nr with
        | zero =>
          obtain ⟨cvs, a1, a2, a3, a4⟩ := root_vals h [] [] rvs is .nil hrv
          exact ⟨[], cvs, .inl rfl, a1, a2, a3, a4⟩
        | succ nr =>
          simp only at hrv
          unfold ghostCs at hrv
          cases hm : mem.getD 0 .dead with
          | ghost cs =>
            rw [hm] at hrv
            have hob := h.obj 0
            rw [hm] at hob
            obtain ⟨us, b1, b2⟩ := hob
            obtain ⟨cvs, a1, a2, a3, a4⟩ := root_vals h cs us rvs is b2 hrv
            exact ⟨us, cvs, .inr (by rw [← h.gh 0 (by show (mem.getD 0 .dead).kd = _; rw [hm]; rfl), b1]), a1, a2, a3, a4⟩
          | _ =>
            rw [hm] at hrv
            simp [rootVs] at hrv
            rw [hrv.1] at hnr
            simp at hnr
      let okx : Nat → Prop := fun b => ok b ∨ ∃ i ∈ g.read, own mem β i = some b
      have H : Hand w ok X.rd β mem mem al okx (fun b => X.rd b ∨ ∃ i, own mem β i = some b) (fun i => i ∈ g.read) := {
        obj := h.obj
        froze := Froze.refl _
        hok := fun _ h => .inl h
        hrd := fun _ h => .inl h
        own := fun i b hb => .inr ⟨i, hb⟩
        rows := fun i hi t xs hx => by
          have hob := h.obj i
          rcases hx with hx | hx
          · rw [hx] at hob
            exact row_rep hob (fun _ h => .inl h) fun b hb => .inr ⟨i, hi, by unfold own; rw [hx]; exact hb⟩
          · rw [hx] at hob
            exact RepE.mono (fun _ _ => rfl) (fun _ h => .inl h) hob }
      obtain ⟨cvs, hcv, hL, hrel⟩ : ∃ cvs : List Value, Cvs (ds.length - nr) cvs v ∧
          cvs.length = (valsOf (ds.length - nr) q).length ∧ ∀ (j : Nat) v cv, (valsOf (ds.length - nr) q)[j]? = some v → cvs[j]? = some cv → RelV w ok X.rd β (kds mem) al v cv := by
        by_cases h1 : ds.length - nr = 1
        · rw [h1]
          have e1 : valsOf 1 q = [q] := by cases q <;> rfl
          refine ⟨[v], ⟨rfl, fun _ => rfl, fun h => absurd rfl h⟩, by rw [e1]; rfl, fun j v' cv hj hc => ?_⟩
          rw [e1] at hj
          cases j with
          | zero => simp at hj hc; subst hj; subst hc; exact hv
          | succ j => simp at hj
        · cases q with
          | tup vs =>
            have e1 := valsOf_tup h1 vs
            rw [e1] at hlen
            cases hv with
            | tup _ us hl hr => exact ⟨us, ⟨by omega, fun h => absurd h h1, fun _ => rfl⟩, by rw [e1]; exact hl, fun j v' cv hj hc => by rw [e1] at hj; exact hr j v' cv hj hc⟩
          | one c =>
            rw [valsOf_one] at hlen
            simp at hlen
            omega
          | agg cs =>
            rw [valsOf_agg] at hlen
            simp at hlen
            omega
      have hcl : cvs.length = ds.length - nr := hcv.1
      obtain ⟨vs, idx, ho, hp⟩ := unpackVs_sound H ds _ (cvs ++ cvsR) g (by simp [hL, hR1]) (fun j v cv hj hc => by
        by_cases hlt : j < cvs.length
        · rw [List.getElem?_append_left (by omega)] at hj
          rw [List.getElem?_append_left hlt] at hc
          exact hrel j v cv hj hc
        · rw [List.getElem?_append_right (by omega)] at hj
          rw [List.getElem?_append_right (by omega), hL] at hc
          exact hR3 _ v cv hj hc) hg fun i hi => hi
      have hidx : ∀ {k k' i : Nat}, idx[k]? = some (some i) → idx[k']? = some (some i) → k = k' := idx_inj (by rw [← ho]; exact nodupB_spec hnd)
      have howned : ∀ {k i : Nat}, idx[k]? = some (some i) → i ∈ g.owned := fun hk => by rw [ho]; exact List.mem_filterMap.2 ⟨_, List.mem_of_getElem? hk, rfl⟩
      refine ⟨okx, cvs, hs, hcv, hgh, by rw [hR2, hnr], fun id => ?_⟩
      have hcount := packVs_count ds g.x id
      let β' : Nat → Value := fun i => vs.getD (i - id) undef
      have hget : ∀ i, (wrs [] (numbered id (packVs ds g.x id).2)).getD i .dead = if id ≤ i ∧ i < id + ownCounts ds then (packVs ds g.x id).2.getD (i - id) .dead else .dead := fun i => by
        rw [numbered_getD, hcount]
        rfl
      have hin : ∀ i, id ≤ i ∧ i < id + ownCounts ds → ∃ o u, (packVs ds g.x id).2[i - id]? = some o ∧ vs[i - id]? = some u ∧ (wrs [] (numbered id (packVs ds g.x id).2)).getD i .dead = o ∧ β' i = u := fun i hi => by
        have h1 : i - id < (packVs ds g.x id).2.length := by omega
        have h2 : i - id < vs.length := by rw [hp.vlen]; omega
        refine ⟨_, _, List.getElem?_eq_getElem h1, List.getElem?_eq_getElem h2, ?_, ?_⟩
        · rw [hget, if_pos hi, List.getD_eq_getElem?_getD, List.getElem?_eq_getElem h1]; rfl
        · show vs.getD (i - id) undef = _
          rw [List.getD_eq_getElem?_getD, List.getElem?_eq_getElem h2]; rfl
      have hout : ∀ i, ¬ (id ≤ i ∧ i < id + ownCounts ds) → (wrs [] (numbered id (packVs ds g.x id).2)).getD i .dead = .dead := fun i hi => by rw [hget, if_neg hi]
      have hownS : ∀ i b, own (wrs [] (numbered id (packVs ds g.x id).2)) β' i = some b → ∃ j, idx[i - id]? = some (some j) ∧ own mem β j = some b ∧ (id ≤ i ∧ i < id + ownCounts ds) := fun i b hb => by
        by_cases hi : id ≤ i ∧ i < id + ownCounts ds
        · obtain ⟨o, u, h1, h2, h3, h4⟩ := hin i hi
          unfold own at hb
          rw [h3, h4] at hb
          obtain ⟨j, h5, h6⟩ := (hp.rows id _ o u h1 h2).2 b hb
          exact ⟨j, h5, h6, hi⟩
        · unfold own at hb
          rw [hout i hi] at hb
          simp [ownB] at hb
      have hR := hp.rel id X.rd β' (kds (wrs [] (numbered id (packVs ds g.x id).2))) (fun i => id ≤ i ∧ i < id + ownCounts ds) fun k u hk => by
        have hkl : k < ownCounts ds := by rw [← hp.vlen]; exact (List.getElem?_eq_some_iff.1 hk).1
        refine ⟨?_, by omega, by omega⟩
        show vs.getD (id + k - id) undef = u
        rw [Nat.add_sub_cancel_left, List.getD_eq_getElem?_getD, hk]; rfl
      refine ⟨β', ?_, fun j v cv hj hc => hR.2 j v cv hj (by rw [List.getElem?_append_left (List.getElem?_eq_some_iff.1 hc).1]; exact hc), fun k hv v hk hvk => ?_⟩
      rotate_left
      · have hkl : k < hs.length := (List.getElem?_eq_some_iff.1 hk).1
        have hcv2 : cvsR[k]? = some (cvsR[k]'(by omega)) := List.getElem?_eq_getElem (by omega)
        have hrv2 : rvs[k]? = some (rvs[k]'(by omega)) := List.getElem?_eq_getElem (by omega)
        have hall : (cvs ++ cvsR)[ds.length - nr + k]? = some (cvsR[k]'(by omega)) := by
          rw [List.getElem?_append_right (by omega), hcl, Nat.add_sub_cancel_left]; exact hcv2
        have hrelv := hR.2 _ v _ hvk hall
        have hL2 : (valsOf (ds.length - nr) q ++ rvs)[ds.length - nr + k]? = some (rvs[k]'(by omega)) := by
          rw [List.getElem?_append_right (by omega), ← hL, hcl, Nat.add_sub_cancel_left]; exact hrv2
        have hform := unpackVs_form ds _ g hg id _ _ v hL2 hvk
        rcases hR4 k _ hv _ hrv2 hk hcv2 with ⟨h1, h2⟩ | ⟨j, b, us, T, h1, h2, h3, h4, h5, h5s⟩
        · refine .inl ⟨h2, ?_⟩
          rw [h1]
          exact hrelv
        · refine .inr ⟨b, us, T, h3, ?_, h4, ?_, ?_, fun p t u hp2 hu2 => h5s p t u (unpackVs_slf ds _ g hg id _ _ v hL2 hvk p t hp2) hu2⟩
          · rcases h5 with ⟨⟨c, h5⟩, h6⟩ | ⟨⟨cs, h5⟩, h6⟩
            · rcases hform with ⟨c1, c', h7, h8⟩ | ⟨c1, c', h7, h8⟩
              · rw [h8] at hrelv ⊢
                rw [h6]
                exact .cons hrelv.one' .nil
              · rw [h5] at h7; cases h7
            · rcases hform with ⟨c1, c', h7, h8⟩ | ⟨c1, c', h7, h8⟩
              · rw [h5] at h7; cases h7
              · rw [h8] at hrelv ⊢
                rw [h6] at hrelv
                generalize hua : Value.agg us.toArray = ua at hrelv
                cases hrelv with
                | agg _ us' hl hr =>
                  simp at hua
                  subst hua
                  exact ⟨hl, hr⟩
          · rintro (h6 | ⟨i, h6, h7⟩)
            · exact h.apart j b h2 h6
            · have := h.inj j i b h2 h7
              subst this
              exact meets_spec hmr j h1 h6
          · intro i h6
            obtain ⟨j', a1, a2, a3⟩ := hownS i b h6
            have := h.inj j j' b h2 a2
            subst this
            exact meets_spec hmi j h1 (howned a1)
      exact {
        size := rfl
        env := fun t v ht => by simp at ht
        obj := fun i => by
          by_cases hi : id ≤ i ∧ i < id + ownCounts ds
          · obtain ⟨o, u, h1, h2, h3, h4⟩ := hin i hi
            rw [h3]
            exact (hp.rows id _ o u h1 h2).1.2 _ _ _ _ _ h4
          · rw [hout i hi]; trivial
        len := fun i hi => by
          by_cases hi2 : id ≤ i ∧ i < id + ownCounts ds
          · exact hi2
          · rw [hout i hi2] at hi
            exact absurd rfl hi
        inj := fun i j b h1 h2 => by
          obtain ⟨k, a1, a2, a3⟩ := hownS i b h1
          obtain ⟨k', b1, b2, b3⟩ := hownS j b h2
          have := h.inj k k' b a2 b2
          subst this
          have := hidx a1 b1
          omega
        apart := fun i b h1 h2 => by
          obtain ⟨k, a1, a2, a3⟩ := hownS i b h1
          rcases h2 with h2 | ⟨j, hj, h2⟩
          · exact h.apart k b a2 h2
          · have := h.inj k j b a2 h2
            subst this
            exact meets_spec hmt k (howned a1) hj
        apartR := fun i b h1 h2 => by
          obtain ⟨k, a1, a2, a3⟩ := hownS i b h1
          exact h.apartR k b a2 h2
        rdLt := h.rdLt
        okLt := fun b hb => by
          rcases hb with hb | ⟨j, hj, hb⟩
          · exact h.okLt b hb
          · exact ownB_lt (h.obj j) hb
        okOld := fun b hb hlt => by
          rcases hb with hb | ⟨j, hj, hb⟩
          · exact h.okOld b hb hlt
          · exact .inr (h.ownOld j b hb hlt)
        ownOld := fun i b h1 hlt => by
          obtain ⟨k, a1, a2, a3⟩ := hownS i b h1
          exact h.ownOld k b a2 hlt
        keep := h.keep
        grow := h.grow
        os := h.os
        out := h.out
        gh := fun i hi => by
          have hi : ((wrs [] (numbered id (packVs ds g.x id).2)).getD i .dead).kd = .ghost := hi
          by_cases hi2 : id ≤ i ∧ i < id + ownCounts ds
          · obtain ⟨o, u, h1, h2, h3, h4⟩ := hin i hi2
            rw [h3] at hi
            exact absurd hi (hp.rows id _ o u h1 h2).1.1.notGhost
          · rw [hout i hi2] at hi; cases hi
        tape := h.tape }
    · cases hx
  · cases hx
end
end Go.Sk

/- The evaluator is sound: what it comes to, the function comes to. -/
set_option linter.unusedSimpArgs false
set_option linter.unusedVariables false
set_option linter.unusedSectionVars false
namespace Go.Sk
open Go

def namesOk (P : Program) : Bool := P.funcs.toList.all fun fn => fn.body.isNone || !(fn.name == "runtime.NumGoroutine")
theorem namesOk_spec {P : Program} (h : namesOk P = true) {g : FuncId} {fn : Func} {c : Code} (hf : P.funcs[g]? = some fn) (hb : fn.body = some c) : (fn.name == "runtime.NumGoroutine") = false := by
  have := List.all_eq_true.1 h fn (by simpa using Array.mem_of_getElem? hf)
  rw [hb] at this
  simpa using this

theorem padV_spec : ∀ (n : Nat) (vs : List V), (padV n vs).length = max n vs.length ∧ ∀ (i : Nat) v, (padV n vs)[i]? = some v → vs[i]? = some v ∨ v = uv
  | 0, vs => ⟨by simp [padV], fun i v h => .inl h⟩
  | n + 1, [] => by
    obtain ⟨h1, h2⟩ := padV_spec n []
    refine ⟨by simp [padV, h1], fun i v h => ?_⟩
    cases i with
    | zero => simp [padV] at h; exact .inr h.symm
    | succ i => exact (h2 i v (by simpa [padV] using h)).imp (fun h => by simp at h) id
  | n + 1, x :: r => by
    obtain ⟨h1, h2⟩ := padV_spec n r
    refine ⟨by simp [padV, h1], fun i v h => ?_⟩
    cases i with
    | zero => simp [padV] at h; exact .inl (by simp [h])
    | succ i => exact (h2 i v (by simpa [padV] using h)).imp (fun h => by simpa using h) id

section
variable {P : Program} {C : Cfg}
/-- a function is entered -/
theorem Inv.pad {X : Fr} {args : List V} {mem : List Obj} {al : Nat → Prop} {us : Array Value} {w : World} {β : Nat → Value} {ok : Nat → Prop} (h : Inv X args mem al us w β ok) (n : Nat) :
    Inv X (padV n args) mem al (us ++ Array.replicate (n - us.size) undef) w β ok := by
  obtain ⟨h1, h2⟩ := padV_spec n args
  have hl := h.size
  exact { h with
    size := by rw [h1]; simp; omega
    env := fun t v ht => by
      rcases h2 t v ht with h0 | rfl
      · have hlt : t < args.length := (List.getElem?_eq_some_iff.1 h0).1
        have hlt2 : t < us.size := by omega
        have e : (us ++ Array.replicate (n - us.size) undef).getD t undef = us.getD t undef := by
          rw [Array.getD_eq_getD_getElem?, Array.getD_eq_getD_getElem?, Array.getElem?_append_left hlt2]
        rw [e]
        exact h.env t v h0
      · exact .one _ _ (.undef _) }

theorem bodyOf_some {g : FuncId} {n : Nat} {ρ : RD} {s : St} {x : ρ.El} (h : run P C n g ρ (entry P g) s = some x) : ∃ fn c, P.funcs[g]? = some fn ∧ fn.body = some c := by
  cases n with
  | zero => cases h
  | succ n =>
    cases hf : P.funcs[g]? with
    | none =>
      have : bodyOf P g = .refuse "" := by unfold bodyOf; rw [hf]
      unfold run entry at h
      rw [this] at h
      cases h
    | some fn =>
      cases hb : fn.body with
      | some c => exact ⟨fn, c, rfl, hb⟩
      | none =>
        have : bodyOf P g = .refuse "" := by unfold bodyOf; rw [hf]; simp only [hb]
        unfold run entry at h
        rw [this] at h
        cases h

theorem enter_goes {g : FuncId} {fn : Func} {c : Code} (hf : P.funcs[g]? = some fn) (hb : fn.body = some c) {us : Array Value} {w : World} {Post : Value → World → Prop}
    (h : Goes P g Post (start (entry P g)) (us ++ Array.replicate (fn.ntmps - us.size) undef) w) : Calls P g us w fun e w' => ∃ v, e = .returned v ∧ Post v w' := by
  intro cs
  obtain ⟨v, w', fr, h1, h2, h3, h4⟩ := h cs
  have hbody : bodyOf P g = c := by unfold bodyOf; rw [hf]; simp only [hb]
  have henter : Frame.enter P g us .normal = (fr0 g).at ⟨us ++ Array.replicate (fn.ntmps - us.size) undef, []⟩ (start (entry P g)) := by
    unfold entry
    rw [hbody]
    simp [Frame.enter, Frame.at, hf, hb, fr0, start, items]
  exact ⟨.returned v, w', fr, ⟨v, rfl, h1⟩, by rw [henter]; exact h2, h3, h4⟩

/-- what is told of functions is so -/
def PrimOk (P : Program) (C : Cfg) : Prop := (∀ (g : FuncId) (asv : List V) (m : List Obj) (ρ : RD) (x : ρ.El), C.prim g asv m ρ = some x → FnSpec P g asv m ρ x ∧ Enters P g) ∧ (∀ g, C.ref g = .apart → ApartFn P g) ∧ ∀ g g', C.ref g = .maker g' → MakerFn P g g'

theorem run_sound (hm : P.follows .mixedOrders = true) (hN : namesOk P = true) (hP : PrimOk P C) : ∀ (n : Nat) (f : FuncId) (ρ : RD) (ks : List KI) (s : St) (x : ρ.El), run P C n f ρ ks s = some x →
    ∀ {fn : Func}, P.funcs[f]? = some fn → ∀ {X : Fr} {al : Nat → Prop} {tmps : Array Value} {w : World} {β : Nat → Value} {ok : Nat → Prop}, Inv X s.env s.mem al tmps w β ok → (∀ j, s.mem.length ≤ j → ¬ al j) →
      Goes P f (PostM X ρ.vals ρ.roots x) (start ks) tmps w := by
  intro n
  induction n with
  | zero => intro f ρ ks s x h; cases h
  | succ n ih =>
    intro f ρ ks s x h fn hf X al tmps w β ok hI hal
    have hcall : CallOk P C (orPrim C fun g asv m σ => run P C n g σ (entry P g) (initS P g asv m)) := by
      refine ⟨?_, hP.2⟩
      intro g asv m σ y hy
      unfold orPrim at hy
      split at hy
      · rename_i z hz
        simp at hy
        subst hy
        exact hP.1 g asv m σ z hz
      · obtain ⟨fg, c, hfg, hbg⟩ := bodyOf_some hy
        refine ⟨fun X al us β ok hI hal => ?_, fg, c, hfg, hbg, namesOk_spec hN hfg hbg⟩
        have hnt : (fxOf P g).ntmps = fg.ntmps := by unfold fxOf; rw [hfg]
        exact enter_goes hfg hbg (ih g σ (entry P g) (initS P g asv m) y hy hfg (X := X) (al := al) (w := X.w0) (β := β) (ok := ok) (by unfold initS; rw [hnt]; exact hI.pad _) hal)
    unfold run at h
    have main := fun ks' h' => seg_goes (C := C) (X := X) (PostR := fun x => PostM X ρ.vals ρ.roots x) (fin := finR ρ) hm hcall hf
      (fun ks s x hx al tmps w β ok hI hal => ih f ρ ks s x hx hf hI hal)
      (fun s x hx al tmps w β ok hI hal => by
        unfold finT at hx
        split at hx
        · rename_i vs hvs
          have hres : (fxOf P f).results = fn.results.toList := by unfold fxOf; rw [hf]
          rw [hres] at hvs
          obtain ⟨v, h1, cvs, hc, h2⟩ := results_run (P := P) hI fn hvs
          obtain ⟨vs', m', al', β', _, hI', hl', hr', hx'⟩ := settleVs_sound vs s.mem _ cvs hI hal hc.1 h2 hx
          exact ⟨v, h1, fin_post hI' (hc.rel (hl'.trans hc.1) hr') hx'⟩
        · cases hx) segFuel ks' s x h' hI hal
    cases ks with
    | nil => exact main [] h
    | cons k0 k =>
      cases k0 with
      | lp b => exact main (.code b :: .lp b :: k) h
      | _ => exact main _ h

/-- what a function is told to come to, it comes to -/
theorem callF_sound (hm : P.follows .mixedOrders = true) (hN : namesOk P = true) (hP : PrimOk P C) {f : FuncId} {args : List V} {m : List Obj} {ρ : RD} {x : ρ.El} (h : callF P C f args m ρ = some x) : FnSpec P f args m ρ x ∧ Enters P f := by
  obtain ⟨n, hn⟩ := run_of_lim h
  obtain ⟨fg, c, hfg, hbg⟩ := bodyOf_some hn
  refine ⟨fun X al us β ok hI hal => ?_, fg, c, hfg, hbg, namesOk_spec hN hfg hbg⟩
  have hnt : (fxOf P f).ntmps = fg.ntmps := by unfold fxOf; rw [hfg]
  exact enter_goes hfg hbg (run_sound hm hN hP n f ρ (entry P f) (initS P f args m) x hn hfg (X := X) (al := al) (w := X.w0) (β := β) (ok := ok) (by unfold initS; rw [hnt]; exact hI.pad _) hal)
end
end Go.Sk

/- What is told of slices.Insert at an owned row: from what it comes to wherever the row's capacity is known. -/
set_option linter.unusedSimpArgs false
set_option linter.unusedVariables false
namespace Go.Sk
open Go Go.RowKit

section
variable {P : Program} {g : FuncId}
/-- a row of the call's own is handed over; told for each room that it may have -/
theorem FnSpec.room {t u : Ty} {xs : List (El t)} {ys : List (El u)} {k : IntKind} {i : Int} {ρ : RD} {x : ρ.El}
    (h : ∀ sp : List (El t), FnSpec P g [.one (.ovw 1 0 xs.length), .one (.int k i), .one (.osl 2)] [.ghost [], .full t (xs ++ sp), .row u ys] ρ x) :
    FnSpec P g [.one (.osl 1), .one (.int k i), .one (.osl 2)] [.ghost [], .row t xs, .row u ys] ρ x := by
  intro X al us β ok hI hal
  have hob := hI.obj 1
  obtain ⟨A, c, hb, hob⟩ := (show ObjRel X.w0 ok X.rd β (kds [.ghost [], .row t xs, .row u ys]) al 1 (.row t xs) from hob)
  obtain ⟨sp, hsp, hfull⟩ : ∃ sp : List (El t), xs.length + sp.length = c ∧ (xs ++ sp = [] ∨ ∃ (b o : Nat) (arr : Array Value) (T : RowT t), A = some ⟨b, o, none⟩ ∧ X.w0.heap[b]? = some (.cells arr T.1 (0, 0)) ∧ o + (xs ++ sp).length * t.size ≤ arr.size ∧ Lies X.w0 ok t (xs ++ sp) (xs ++ sp).length o arr) := by
    rcases hob with ⟨rfl, rfl⟩ | ⟨b, o, arr, T, rfl, hh, h0, hle, hs, sp, h1, h2⟩
    · exact ⟨[], rfl, .inl rfl⟩
    · refine ⟨sp, h1, .inr ⟨b, o, arr, T, rfl, hh, by rw [List.length_append, h1]; exact hs, [], by simp, fun q y hq => h2 q y ?_⟩⟩
      rw [List.append_nil] at hq
      exact hq
  have hlc : (xs ++ sp).length = c := by rw [List.length_append]; exact hsp
  let β' : Nat → Value := fun j => if j = 1 then .slice A c c else β j
  have hown : ∀ j, ownB ([Obj.ghost [], .full t (xs ++ sp), .row u ys].getD j .dead) (β' j) = ownB ([Obj.ghost [], .row t xs, .row u ys].getD j .dead) (β j) := fun j => by
    match j with
    | 0 => rfl
    | 1 =>
      show ownB (.full t (xs ++ sp)) (.slice A c c) = ownB (.row t xs) (β 1)
      rw [hb]
      cases A <;> rfl
    | 2 => rfl
    | j + 3 => rfl
  have hkd : ∀ j, kds [.ghost [], .full t (xs ++ sp), .row u ys] j = kds [.ghost [], .row t xs, .row u ys] j := fun j => by
    match j with
    | 0 => rfl
    | 1 => rfl
    | 2 => rfl
    | j + 3 => rfl
  refine h sp X al us β' ok { hI with env := fun q v hq => ?_, obj := fun j => ?_, len := fun j hj => hI.len j fun e => hj ((hkd j).trans e), inj := fun i j b hi hj => hI.inj i j b (by rw [← hown]; exact hi) (by rw [← hown]; exact hj), apart := fun j b hj => hI.apart j b (by rw [← hown]; exact hj), apartR := fun j b hj => hI.apartR j b (by rw [← hown]; exact hj), gh := fun j hj => ?_, ownOld := fun j b hj => hI.ownOld j b (by rw [← hown]; exact hj) } hal
  · match q, hq with
    | 0, hq =>
      cases hq
      have h1 := (hI.env 0 _ rfl).one'
      have hv : us.getD 0 undef = β 1 := by
        generalize us.getD 0 undef = v at h1
        cases h1 with
        | osl _ _ hi hk _ => exact hk (by simp [Obj.kd])
      refine .one _ _ (.ovw _ _ _ _ (hI.len 1 (by simp [Obj.kd])) (fun t' ht' => ?_) (by rw [hv, hb]; rfl))
      cases ht'
      refine ⟨A, c, c, A, rfl, by rw [hv, hb]; rfl, by omega, fun b o he _ => ?_⟩
      rw [he]
      simp
    | 1, hq =>
      cases hq
      have h1 := (hI.env 1 _ rfl).one'
      generalize us.getD 1 undef = v at h1 ⊢
      cases h1
      exact .one _ _ (.int _ _)
    | 2, hq =>
      cases hq
      have h1 := (hI.env 2 _ rfl).one'
      generalize us.getD 2 undef = v at h1 ⊢
      cases h1 with
      | osl _ _ hi hk h1 => exact .one _ _ (.osl _ _ hi hk h1)
    | q + 3, hq => simp at hq
  · match j with
    | 0 =>
      have := hI.obj 0
      obtain ⟨us', h1, h2⟩ := (show ObjRel X.w0 ok X.rd β (kds [.ghost [], .row t xs, .row u ys]) al 0 (.ghost []) from this)
      exact ⟨us', h1, h2.1, fun j c u hj => by simp at hj⟩
    | 1 => exact ⟨A, show Value.slice A c c = _ by rw [hlc], hfull⟩
    | 2 => exact hI.obj 2
    | j + 3 => exact hI.obj (j + 3)
  · match j, hj with
    | 0, hj => exact hI.gh 0 rfl
    | 1, hj => cases hj
    | 2, hj => cases hj
    | j + 3, hj => cases hj
end

/-- what is told of slices.Insert -/
def insPrim (bt : Ty) (bytes : Nat) (args : List V) (mem : List Obj) (ρ : RD) : Option ρ.El :=
  match args, mem, ρ with
  | [.one (.osl 1), .one (.int .i64 i), .one (.osl 2)], [.ghost [], .row t xs, .row u ys], ⟨[.one (.ty (.slice r))], 0⟩ =>
    match decS bt t xs, decS bt u ys, Ty.eq? bt r with
    | some xs, some ys, some ⟨h⟩ => if 0 ≤ i ∧ i ≤ xs.length ∧ 0 < ys.length ∧ (xs.length + ys.length) * bytes ≤ 140737488355328 then some (h ▸ (xs.take i.toNat ++ ys ++ xs.drop i.toNat)) else none
    | _, _, _ => none
  | _, _, _ => none
theorem insPrim_spec {P : Program} {g : FuncId} {bt : Ty} {bytes : Nat} (h : ∀ (xs ys sp : List (El bt)) (i : Int), 0 ≤ i → i ≤ xs.length → 0 < ys.length → (xs.length + ys.length) * bytes ≤ 140737488355328 →
      FnSpec P g [.one (.ovw 1 0 xs.length), .one (.int .i64 i), .one (.osl 2)] [.ghost [], .full bt (xs ++ sp), .row bt ys] ⟨[.one (.ty (.slice bt))], 0⟩ (xs.take i.toNat ++ ys ++ xs.drop i.toNat))
    {args : List V} {mem : List Obj} {ρ : RD} {x : ρ.El} (hx : insPrim bt bytes args mem ρ = some x) : FnSpec P g args mem ρ x := by
  unfold insPrim at hx
  split at hx
  · rename_i i t xs u ys r
    split at hx
    · rename_i xs' ys' hr h1 h2 h3
      obtain ⟨rfl, rfl⟩ := decS_spec h1
      obtain ⟨rfl, rfl⟩ := decS_spec h2
      subst hr
      split at hx
      · rename_i hg
        cases hx
        exact FnSpec.room fun sp => h _ _ sp i hg.1 hg.2.1 hg.2.2.1 hg.2.2.2
      · cases hx
    · cases hx
  · cases hx
end Go.Sk

/- What is told of slices.Clone: from what it comes to at a slice of which it is known whether it is nil. -/
set_option linter.unusedSimpArgs false
set_option linter.unusedVariables false
namespace Go.Sk
open Go Go.RowKit

section
variable {P : Program} {g : FuncId}
/-- whatever is so of a nil slice and of one that is not -/
theorem FnSpec.chk {t : Ty} {xs : List (El t)} {ρ : RD} {x : ρ.El} (h : ∀ b, (b = true → xs = []) → FnSpec P g [.one (.chk b t xs)] [] ρ x) : FnSpec P g [.one (.slc t xs)] [] ρ x := by
  intro X al us β ok hI hal
  have h1 := (hI.env 0 _ rfl).one'
  obtain ⟨A, c, hv, hc, hrow⟩ : ∃ A c, us.getD 0 undef = .slice A xs.length c ∧ xs.length ≤ c ∧ RowAt X.w0 ok (RepE X.w0 ok t) t.size A xs := by
    generalize us.getD 0 undef = v at h1 ⊢
    cases h1
    exact ⟨_, _, rfl, by assumption, by assumption⟩
  refine h A.isNone (fun hb => ?_) X al us β ok { hI with env := fun q v hq => ?_ } hal
  · rcases hrow with h0 | ⟨b, o, rfl, _⟩
    · exact h0
    · cases hb
  · match q, hq with
    | 0, hq =>
      cases hq
      rw [hv]
      exact .one _ _ (.chk _ t xs A c rfl hc hrow)
    | q + 1, hq => simp at hq
end

/-- what is told of slices.Clone -/
def clonePrim (bt : Ty) (bytes : Nat) (args : List V) (mem : List Obj) (ρ : RD) : Option ρ.El :=
  match args, mem, ρ with
  | [.one (.slc t xs)], [], ⟨[.one (.own r)], 0⟩ =>
    match decS bt t xs, Ty.eq? bt r with
    | some xs, some ⟨h⟩ => if xs.length * bytes ≤ 140737488355328 then some (h ▸ xs) else none
    | _, _ => none
  | _, _, _ => none
theorem clonePrim_spec {P : Program} {g : FuncId} {bt : Ty} {bytes : Nat} (h : ∀ (b : Bool) (xs : List (El bt)), (b = true → xs = []) → xs.length * bytes ≤ 140737488355328 → FnSpec P g [.one (.chk b bt xs)] [] ⟨[.one (.own bt)], 0⟩ xs)
    {args : List V} {mem : List Obj} {ρ : RD} {x : ρ.El} (hx : clonePrim bt bytes args mem ρ = some x) : FnSpec P g args mem ρ x := by
  unfold clonePrim at hx
  split at hx
  · rename_i t xs r
    split at hx
    · rename_i xs' hr h1 h2
      obtain ⟨rfl, rfl⟩ := decS_spec h1
      subst hr
      split at hx
      · rename_i hg
        cases hx
        exact FnSpec.chk fun b hb => h b _ hb hg
      · cases hx
    · cases hx
  · cases hx
end Go.Sk

/- What is told of strings.Builder: copyCheck (its own address in its first cell) and String (the bytes of its row, as a text). -/
set_option linter.unusedSimpArgs false
set_option linter.unusedVariables false
namespace Go.Sk
open Go

/-! ### bytes in a row, as a text -/
section
variable {P : Program} (w : World)
theorem liesAt_bytesO {e : TypeId} (hc : P.cellsOf e = 1) (count off n : Nat) (hn : off + n ≤ count) : liesAt P P.depth e count off e n = true := by
  have hd : P.depth = (2 * (P.types.size + Made.depth) + 1) + 1 := rfl
  rw [hd]
  simp only [liesAt, Bool.or_eq_true]
  left
  rw [hd]
  simp [rowAt, hc, hn, sameLayout, Nat.mod_one]
theorem run_loadInts : ∀ (l : List Int) (a : Addr) (acc : ByteArray), (∀ j x, l[j]? = some x → w.cell? (a.add j) = some (.int .u8 x)) →
    (loadBytes a acc l.length).run P w = .ok ⟨acc.data ++ (l.map fun n => UInt8.ofNat n.toNat).toArray⟩ w
  | [], a, acc, _ => by simp [loadBytes]
  | x :: l, a, acc, h => by
    have h0 : w.cell? a = some (.int .u8 x) := by
      have := h 0 x rfl
      simpa [Addr.add] using this
    have ih := run_loadInts l (a.add 1) (acc.push x.toNat.toUInt8) (fun j y hy => by
      have := h (j + 1) y (by simpa using hy)
      have e : (a.add 1).add j = a.add (j + 1) := by
        unfold Addr.add
        by_cases hj : j = 0
        · subst hj; simp
        · simp [hj]; omega
      rw [e]; exact this)
    simp only [List.length_cons, loadBytes, Sem.run_bind, run_load, h0, Result.andThen]
    rw [ih]
    congr 1
    apply ByteArray.ext
    simp [ByteArray.push, Nat.toUInt8]
theorem run_unsafeString_rowI (pt it ty e : TypeId) (hp : P.underlying pt = some (.pointer e)) (hc : P.cellsOf e = 1) (g o cells : Nat) (hsh : w.shape? g = some (e, cells)) (l : List Int) (h0 : l ≠ []) (hn : o + l.length ≤ cells) (h63 : l.length ≤ 9223372036854775807)
    (hcell : ∀ j x, l[j]? = some x → w.cell? ((⟨g, o, none⟩ : Addr).add j) = some (.int .u8 x)) :
    (Builtin.unsafeString_ #[pt, it] ty #[.pointer (some ⟨g, o, none⟩), .int .i64 l.length]).run P w = .ok (.string (bytesOf l)) (w.freeze ⟨g, o, none⟩ l.length) := by
  have hl : l.length ≠ 0 := by simpa using h0
  have hlb := run_loadInts (P := P) w l ⟨g, o, none⟩ .empty hcell
  have hlies := liesAt_bytesO (P := P) hc (cells / P.cellsOf e) o l.length (by rw [hc]; simpa using hn)
  have h63' : ¬ (9223372036854775807 : Int) < (l.length : Int) := by omega
  obtain ⟨e1, e2, e3, hdef⟩ : ∃ e1 e2 e3, Builtin.unsafeString_ #[pt, it] ty #[.pointer (some ⟨g, o, none⟩), .int .i64 l.length] =
      (do
        let n ← asInt (.int .i64 l.length)
        if n < 0 then runtimePanic e1
        if n > IntKind.i64.max then unsupported e2
        if n = 0 then pure (.string .empty)
        else if ← variablesAt ⟨g, o, none⟩ (← Go.elemOf pt) n.toNat then do
          let s ← loadBytes ⟨g, o, none⟩ .empty n.toNat
          Go.freeze ⟨g, o, none⟩ n.toNat
          pure (.string s)
        else unsupported e3) := ⟨_, _, _, rfl⟩
  rw [hdef]
  have hmax : IntKind.i64.max = 9223372036854775807 := rfl
  have hneg : ¬ (l.length : Int) < 0 := by omega
  simp [asInt, asIntOf, hmax, h63', hneg, hl, variablesAt, hsh, Go.elemOf, run_underlying hp, hlies, hlb, bytesOf]
end

/-- what is told of copyCheck at a builder of type T -/
def selfPrim (T : TypeId) (args : List V) (mem : List Obj) (ρ : RD) : Option ρ.El :=
  match args, mem, ρ with
  | [.one (.ptr 1 0)], [.ghost [.ptr 1 0], .cells [.slf t, .nils (.int .u8)]], ⟨[.agg (.cat (.keep (.slf t')) (.own (.int .u8)))], 1⟩ => if t = T ∧ t' = T then some ((), []) else none
  | [.one (.ptr 1 0)], [.ghost [.ptr 1 0], .cells [.slf t, .osl 2], .row (.int .u8) xs], ⟨[.agg (.cat (.keep (.slf t')) (.own (.int .u8)))], 1⟩ => if t = T ∧ t' = T then some ((), xs) else none
  | _, _, _ => none
/-- what is told of String at a builder of type T that holds something -/
def textPrim (T : TypeId) (args : List V) (mem : List Obj) (ρ : RD) : Option ρ.El :=
  match args, mem, ρ with
  | [.one (.ptr 1 0)], [.ghost [], .cells [.slf t, .osl 2], .row (.int .u8) xs], ⟨[.one (.ty .str)], 0⟩ => if t = T ∧ 0 < xs.length ∧ xs.length ≤ 9223372036854775807 then some (bytesOf xs) else none
  | _, _, _ => none

section
variable {P : Program} {g : FuncId} {T : TypeId}
theorem one_arg {X : Fr} {v : V} {mem : List Obj} {al : Nat → Prop} {us : Array Value} {w : World} {β : Nat → Value} {ok : Nat → Prop} {u : Value} (h : Inv X [v] mem al us w β ok) (hu : us.getD 0 undef = u) : us = #[u] := by
  have h2 : us.size = 1 := h.size
  rw [← hu]
  apply Array.ext
  · simpa using h2
  · intro i hi1 hi2
    have : i = 0 := by omega
    subst this
    simp [Array.getD, hi1]
theorem Inv.bare {X : Fr} {env : List V} {mem : List Obj} {al : Nat → Prop} {us : Array Value} {w : World} {β : Nat → Value} {ok : Nat → Prop} (h : Inv X env mem al us w β ok) : Inv X [] mem al #[] w β ok := { h with size := rfl, env := fun t v ht => by simp at ht }
theorem RelL.two {w : World} {ok rd : Nat → Prop} {β : Nat → Value} {kd : Nat → KD} {al : Nat → Prop} {c d : CV} {us : List Value} (h : RelL w ok rd β kd al [c, d] us) : ∃ u v, us = [u, v] ∧ RelC w ok rd β kd al c u ∧ RelC w ok rd β kd al d v := by
  obtain ⟨u, r, rfl, h1, h2⟩ := h.head
  obtain ⟨v, r, rfl, h3, h4⟩ := h2.head
  have : r = [] := by have := h4.1; simpa using this
  subst this
  exact ⟨u, v, rfl, h1, h3⟩

theorem self_told {c : CV} {rest : List Obj} {ρ : RD} {x : ρ.El}
    (hU : ∀ (b : Nat) (w : World), w.cell? ⟨b, 0, none⟩ = some (.pointer (some ⟨b, 0, none⟩)) → Calls P g #[.pointer (some ⟨b, 0, none⟩)] w fun e w' => e = .returned (.tuple #[]) ∧ w' = w)
    (hF : ∀ (b : Nat) (w : World), w.cell? ⟨b, 0, none⟩ = some (.pointer none) → w.shape? b = some (T, 2) → w.frozen? ⟨b, 0, none⟩ = false →
      Calls P g #[.pointer (some ⟨b, 0, none⟩)] w fun e w' => e = .returned (.tuple #[]) ∧ w' = w.setCell ⟨b, 0, none⟩ (.pointer (some ⟨b, 0, none⟩)))
    (hfin : finR ρ (.tup []) (.ghost [.ptr 1 0] :: .cells [.slf T, c] :: rest) = some x) : FnSpec P g [.one (.ptr 1 0)] (.ghost [.ptr 1 0] :: .cells [.slf T, c] :: rest) ρ x := by
  intro X al us β ok h hal
  have h1 := (h.env 0 _ rfl).one'
  obtain ⟨b, us1, T', hb, hh, hl, hs⟩ := (show ObjRel X.w0 ok X.rd β (kds (.ghost [.ptr 1 0] :: .cells [.slf T, c] :: rest)) al 1 (.cells [.slf T, c]) from h.obj 1)
  have hu : us.getD 0 undef = .pointer (some ⟨b, 0, none⟩) := by
    generalize us.getD 0 undef = u at h1
    cases h1 with
    | ptr _ _ _ hi hk _ =>
      obtain ⟨b', e1, e2⟩ := hk rfl
      rw [hb] at e1
      cases e1
      exact e2
  rw [one_arg h hu]
  obtain ⟨u0, u1, rfl, hr0, hr1⟩ := hl.two
  obtain ⟨rfl, h0⟩ := hs 0 T u0 rfl rfl
  have post : ∀ {w' : World}, Inv X [.one (.ptr 1 0)] (.ghost [.ptr 1 0] :: .cells [.slf T', c] :: rest) al us w' β ok → PostM X ρ.vals ρ.roots x (.tuple #[]) w' := fun hI =>
    fin_post (q := .tup []) hI.bare (.tup [] [] rfl fun j v u hv => by simp at hv) hfin
  rcases h0 with rfl | rfl
  · refine (hF b X.w0 (by simp [World.cell?, hh]) (by simp [World.shape?, hh]) (by simp [World.frozen?, hh])).mono fun e w' he => ?_
    obtain ⟨rfl, rfl⟩ := he
    refine ⟨_, rfl, post (h.modify (i := 1) (o' := .cells [.slf T', c]) (mem' := .ghost [.ptr 1 0] :: .cells [.slf T', c] :: rest) (w' := X.w0.setCell ⟨b, 0, none⟩ (.pointer (some ⟨b, 0, none⟩))) (fun j => ?_) rfl (h.len 1 (by simp [Obj.kd])) (fun b' hb' => ?_) (by simp [World.setCell]) (fun b' hb' => hb') (fun ext => ?_) rfl rfl rfl).2⟩
    · by_cases e : j = 1
      · subst e; rfl
      · rw [if_neg e]
    · have : b' ≠ b := fun e => hb' (by unfold own; rw [e]; show ownB (.cells _) _ = _; rw [hb]; rfl)
      simp [World.setCell, Array.getElem?_modify, Ne.symm this]
    · refine ⟨b, [.pointer (some ⟨b, 0, none⟩), u1], T', hb, by simp [World.setCell, Array.getElem?_modify, hh], .cons (.slf _ _ rfl) (.cons (hr1.mono ext) .nil), fun j t u hj hu => ?_⟩
      match j with
      | 0 =>
        simp at hj hu
        exact ⟨hj, .inr hu.symm⟩
      | 1 => 
        obtain ⟨h2, h3⟩ := hs 1 t u1 hj rfl
        simp at hu
        subst hu
        exact ⟨h2, h3⟩
      | j + 2 => simp at hj
  · refine (hU b X.w0 (by simp [World.cell?, hh])).mono fun e w' he => ?_
    obtain ⟨rfl, rfl⟩ := he
    exact ⟨_, rfl, post h⟩
theorem selfPrim_spec
    (hU : ∀ (b : Nat) (w : World), w.cell? ⟨b, 0, none⟩ = some (.pointer (some ⟨b, 0, none⟩)) → Calls P g #[.pointer (some ⟨b, 0, none⟩)] w fun e w' => e = .returned (.tuple #[]) ∧ w' = w)
    (hF : ∀ (b : Nat) (w : World), w.cell? ⟨b, 0, none⟩ = some (.pointer none) → w.shape? b = some (T, 2) → w.frozen? ⟨b, 0, none⟩ = false →
      Calls P g #[.pointer (some ⟨b, 0, none⟩)] w fun e w' => e = .returned (.tuple #[]) ∧ w' = w.setCell ⟨b, 0, none⟩ (.pointer (some ⟨b, 0, none⟩)))
    (h1 : finR ⟨[.agg (.cat (.keep (.slf T)) (.own (.int .u8)))], 1⟩ (.tup []) [.ghost [.ptr 1 0], .cells [.slf T, .nils (.int .u8)]] = some ((), []))
    (h2 : ∀ xs : List Int, finR ⟨[.agg (.cat (.keep (.slf T)) (.own (.int .u8)))], 1⟩ (.tup []) [.ghost [.ptr 1 0], .cells [.slf T, .osl 2], .row (.int .u8) xs] = some ((), xs))
    {args : List V} {mem : List Obj} {ρ : RD} {x : ρ.El} (hx : selfPrim T args mem ρ = some x) : FnSpec P g args mem ρ x := by
  unfold selfPrim at hx
  split at hx
  · split at hx
    · rename_i hc
      obtain ⟨rfl, rfl⟩ := hc
      cases hx
      exact self_told hU hF h1
    · cases hx
  · split at hx
    · rename_i hc
      obtain ⟨rfl, rfl⟩ := hc
      cases hx
      exact self_told hU hF (h2 _)
    · cases hx
  · cases hx

theorem text_told {xs : List Int}
    (hS : ∀ (b gg o cap : Nat) (cur : Array Value) (w : World), w.cell? ⟨b, 1, none⟩ = some (.slice (some ⟨gg, o, none⟩) xs.length cap) → w.heap[gg]? = some (.cells cur 5 (0, 0)) → xs.length ≤ cap → o + cap ≤ cur.size →
      (∀ j x, xs[j]? = some x → w.cell? ((⟨gg, o, none⟩ : Addr).add j) = some (.int .u8 x)) →
      Calls P g #[.pointer (some ⟨b, 0, none⟩)] w fun e w' => e = .returned (.string (bytesOf xs)) ∧ w' = w.drew.freeze ⟨gg, o, none⟩ xs.length) (h0 : 0 < xs.length) :
    FnSpec P g [.one (.ptr 1 0)] [.ghost [], .cells [.slf T, .osl 2], .row (.int .u8) xs] ⟨[.one (.ty .str)], 0⟩ (bytesOf xs) := by
  intro X al us β ok h hal
  have h1 := (h.env 0 _ rfl).one'
  obtain ⟨b, us1, T', hb, hh, hl, hs⟩ := (show ObjRel X.w0 ok X.rd β (kds [.ghost [], .cells [.slf T, .osl 2], .row (.int .u8) xs]) al 1 (.cells [.slf T, .osl 2]) from h.obj 1)
  have hu : us.getD 0 undef = .pointer (some ⟨b, 0, none⟩) := by
    generalize us.getD 0 undef = u at h1
    cases h1 with
    | ptr _ _ _ hi hk _ =>
      obtain ⟨b', e1, e2⟩ := hk rfl
      rw [hb] at e1
      cases e1
      exact e2
  rw [one_arg h hu]
  obtain ⟨u0, u1, rfl, hr0, hr1⟩ := hl.two
  obtain ⟨A, c, hb2, hob⟩ := (show ObjRel X.w0 ok X.rd β (kds [.ghost [], .cells [.slf T, .osl 2], .row (.int .u8) xs]) al 2 (.row (.int .u8) xs) from h.obj 2)
  have hu1 : u1 = β 2 := hr1.osl_inv (fun h => by cases h)
  subst hu1
  rcases hob with ⟨rfl, _⟩ | ⟨gg, o, arr, T2, rfl, hg, hc0, hlc, hsz, hlies⟩
  · simp at h0
  have hT2 : T2.1 = 5 := T2.2 rfl
  rw [hT2] at hg
  have hown2 : own [.ghost [], .cells [.slf T, .osl 2], .row (.int .u8) xs] β 2 = some gg := by
    unfold own
    rw [hb2]
    show ownB (.row (.int .u8) xs) _ = _
    simp only [ownB]
    rw [if_neg (by omega)]
  refine (hS b gg o c arr X.w0 (by simp [World.cell?, hh, hb2]) hg hlc (by simpa [Ty.size] using hsz) fun j x hj => ?_).mono fun e w' he => ?_
  · obtain ⟨us2, l1, l2, l3⟩ := hlies.at_ j x hj
    have l2' : us2 = [.int .u8 x] := l2
    have := l3 0 (.int .u8 x) (by rw [l2']; rfl)
    simp only [Ty.size, Nat.mul_one, Nat.add_zero] at this
    have e : (⟨gg, o, none⟩ : Addr).add j = ⟨gg, o + j, none⟩ := by
      unfold Addr.add
      split <;> simp_all
    rw [e]
    unfold World.cell?
    simp only [hg]
    simpa using this
  · obtain ⟨rfl, rfl⟩ := he
    have key : Inv X [.one (.ptr 1 0)] [.ghost [], .dead, .dead] al us (X.w0.drew.freeze ⟨gg, o, none⟩ xs.length) β ok := by
      have hno : ∀ i b', (i = 1 ∨ i = 2) → own [.ghost [], .dead, .dead] β i ≠ some b' := fun i b' hi hb' => by
        rcases hi with rfl | rfl <;> (unfold own at hb'; simp [ownB] at hb')
      have hdead : ∀ i, (i = 1 ∨ i = 2) → ([.ghost [], .dead, .dead] : List Obj).getD i .dead = .dead := fun i hi => by
        rcases hi with rfl | rfl <;> rfl
      refine (h.update (mem' := [.ghost [], .dead, .dead]) (al' := al) (w' := X.w0.drew.freeze ⟨gg, o, none⟩ xs.length) (β' := β) (ok' := ok) (fun i => i = 1 ∨ i = 2) (fun _ h => h) (fun i hi hk => ?_) (fun i hi => ?_) (fun _ _ => rfl) (fun i hi _ => .inr ?_) (fun i hi hg => ?_) (fun b' hb' hne => ?_) ?_
        (fun _ h => h) (fun _ h => .inl h) (fun ext i hi => ?_) (fun i b' hi hb' => absurd hb' (hno i b' hi)) (fun i j b' hi hj hb' _ => absurd hb' (hno i b' hi)) (fun i b' hi hb' => absurd hb' (hno i b' hi)) ?_ ?_ ?_).2
      · exact absurd (by show (([.ghost [], .dead, .dead] : List Obj).getD i .dead).kd = _; rw [hdead i hi]; rfl) hk
      · match i, hi with
        | 0, _ => rfl
        | 1, hi => exact absurd (.inl rfl) hi
        | 2, hi => exact absurd (.inr rfl) hi
        | i + 3, _ => rfl
      · show (([.ghost [], .dead, .dead] : List Obj).getD i .dead).kd = _
        rw [hdead i hi]; rfl
      · have hg' : (([.ghost [], .dead, .dead] : List Obj).getD i .dead).kd = .ghost := hg
        rw [hdead i hi] at hg'; cases hg'
      · have hn : b' ≠ gg := fun e => hne 2 (.inr rfl) (by rw [hown2, e])
        unfold World.freeze
        split
        · rfl
        · simp only [Array.getElem?_modify]
          rw [if_neg (Ne.symm hn)]
          rfl
      · unfold World.freeze
        split
        · exact Nat.le_refl _
        · simp only [Array.size_modify]
          exact Nat.le_refl _
      · rw [hdead i hi]; trivial
      · unfold World.freeze; split <;> rfl
      · unfold World.freeze; split <;> rfl
      · unfold World.freeze; split <;> rfl
    exact ⟨_, rfl, fin_post (ρ := ⟨[.one (.ty .str)], 0⟩) (x := bytesOf xs) (q := .one (.str (bytesOf xs))) key.bare (.one _ _ (.str _)) rfl⟩
theorem textPrim_spec
    (hS : ∀ (xs : List Int) (b gg o cap : Nat) (cur : Array Value) (w : World), 0 < xs.length → xs.length ≤ 9223372036854775807 → w.cell? ⟨b, 1, none⟩ = some (.slice (some ⟨gg, o, none⟩) xs.length cap) → w.heap[gg]? = some (.cells cur 5 (0, 0)) → xs.length ≤ cap → o + cap ≤ cur.size →
      (∀ j x, xs[j]? = some x → w.cell? ((⟨gg, o, none⟩ : Addr).add j) = some (.int .u8 x)) →
      Calls P g #[.pointer (some ⟨b, 0, none⟩)] w fun e w' => e = .returned (.string (bytesOf xs)) ∧ w' = w.drew.freeze ⟨gg, o, none⟩ xs.length)
    {args : List V} {mem : List Obj} {ρ : RD} {x : ρ.El} (hx : textPrim T args mem ρ = some x) : FnSpec P g args mem ρ x := by
  unfold textPrim at hx
  split at hx
  · split at hx
    · rename_i hc
      obtain ⟨rfl, h0, h1⟩ := hc
      cases hx
      exact text_told (fun b gg o cap cur w => hS _ b gg o cap cur w h0 h1) h0
    · cases hx
  · cases hx
end
end Go.Sk

/- What is told of a function that sorts an owned row of texts in place: from its contract over any world. -/
set_option linter.unusedSimpArgs false
set_option linter.unusedVariables false
namespace Go.Sk
open Go Go.RowKit

/-- texts, ascending -/
def sortTexts (l : List ByteArray) : List ByteArray := l.mergeSort fun a b => decide (a.data.toList ≤ b.data.toList)
abbrev bytesOfT (l : List ByteArray) : List (List UInt8) := l.map fun a => a.data.toList
theorem sortTexts_bytes (l : List ByteArray) : bytesOfT (sortTexts l) = (bytesOfT l).mergeSort fun x y => decide (x ≤ y) := List.map_mergeSort fun _ _ _ _ => rfl
theorem encStr_bytes (a : ByteArray) : Go.Proofs.encStr a.data.toList = .string a := rfl
theorem putCellsS_get (o : Nat) (ys : List (List UInt8)) (arr : Array Value) (k : Nat) : (Sort.putCells Go.Proofs.encStr o ys.toArray arr)[k]? = arr[k]?.map fun x => if o ≤ k ∧ k < o + ys.length then Go.Proofs.encStr ys.toArray[k - o]! else x := by
  unfold Sort.putCells
  rw [Array.getElem?_mapIdx]
  rfl
theorem heapS_grow (w : World) (os : Array Go.Obj) (b : Nat) (h : b < w.heap.size) : (Sort.grow w os).heap[b]? = w.heap[b]? := by
  unfold Sort.grow
  rw [Array.getElem?_append_left h]
theorem heapS_putRow (w : World) (b o : Nat) (ys : List (List UInt8)) (b' : Nat) : (Sort.putRow Go.Proofs.encStr w b o ys.toArray).heap[b']? = if b = b' then w.heap[b']?.map (Sort.onCells (Sort.putCells Go.Proofs.encStr o ys.toArray)) else w.heap[b']? := by
  unfold Sort.putRow Sort.mapBlock
  exact Array.getElem?_modify

section
variable {P : Program} {g : FuncId}
theorem sortedS_fin {X : Fr} {al : Nat → Prop} {w : World} {β : Nat → Value} {ok : Nat → Prop} {ys : List ByteArray} (h : Inv X [] [.ghost [.osl 1], .row .str ys] al #[] w β ok) : PostM X [.one (.own .str)] 1 ys (.tuple #[]) w :=
  fin_post (ρ := ⟨[.one (.own .str)], 1⟩) (x := ys) (q := .tup []) h (.tup [] [] rfl fun j v u hv => by simp at hv) rfl

theorem sortS_told (hS : ∀ (blk off cap : Nat) (zs : List (List UInt8)) (w : World), Sort.Holds Go.Proofs.encStr w blk off zs.toArray → blk < w.heap.size → zs.length < 4611686018427387904 →
      Calls P g #[.slice (some ⟨blk, off, none⟩) zs.length cap] w fun e w' => e = .returned (.tuple #[]) ∧ ∃ n os, w' = Sort.grow (Sort.putRow Go.Proofs.encStr (Sort.ahead w n) blk off (zs.mergeSort fun x y => decide (x ≤ y)).toArray) os)
    (hN : ∀ (p : Option Addr) (cap : Nat) (w : World), Calls P g #[.slice p 0 cap] w fun e w' => e = .returned (.tuple #[]) ∧ w' = w) {xs : List ByteArray} (hsz : xs.length < 4611686018427387904) :
    FnSpec P g [.one (.osl 1)] [.ghost [.osl 1], .row .str xs] ⟨[.one (.own .str)], 1⟩ (sortTexts xs) := by
  intro X al us β ok h hal
  have h1 := h.env 0 _ rfl
  have hu : us.getD 0 undef = β 1 := by
    have := h1.one'
    generalize us.getD 0 undef = u at this
    cases this with
    | osl _ _ hi hk _ => exact hk (by simp [Obj.kd])
  have hus : us = #[β 1] := by
    have h2 : us.size = 1 := h.size
    rw [← hu]
    apply Array.ext
    · simpa using h2
    · intro i hi1 hi2
      have : i = 0 := by omega
      subst this
      simp [Array.getD, hi1]
  have hob := h.obj 1
  obtain ⟨A, c, hb, hob⟩ := (show ObjRel X.w0 ok X.rd β (kds [.ghost [.osl 1], .row .str xs]) al 1 (.row .str xs) from hob)
  have hle : (sortTexts xs).length = xs.length := List.length_mergeSort _
  have drop : ∀ {ys : List ByteArray} {w' : World}, Inv X [.one (.osl 1)] [.ghost [.osl 1], .row .str ys] al us w' β ok → Inv X [] [.ghost [.osl 1], .row .str ys] al #[] w' β ok := fun h => { h with size := rfl, env := fun t v ht => by simp at ht }
  rw [hus, hb]
  by_cases hx : xs = []
  · subst hx
    refine (hN A c X.w0).mono fun e w' he => ?_
    obtain ⟨rfl, rfl⟩ := he
    exact ⟨_, rfl, sortedS_fin (drop (by simpa [sortTexts] using h))⟩
  rcases hob with ⟨rfl, _⟩ | ⟨b, o, arr, T, rfl, hh, h0, hlc, hsz', hl⟩
  · exact absurd rfl hx
  have hblt : b < X.w0.heap.size := by
    rcases Nat.lt_or_ge b X.w0.heap.size with h | h
    · exact h
    · rw [Array.getElem?_eq_none h] at hh; cases hh
  have hlen : (bytesOfT xs).length = xs.length := List.length_map _
  have hH : Sort.Holds Go.Proofs.encStr X.w0 b o (bytesOfT xs).toArray := by
    intro j hj
    have hj' : j < xs.length := by rw [← hlen]; simpa using hj
    obtain ⟨us, l1, l2, l3⟩ := hl.at_ j xs[j] (List.getElem?_eq_getElem hj')
    have l2' : us = [.string xs[j]] := l2
    have := l3 0 (.string xs[j]) (by rw [l2']; rfl)
    simp only [Ty.size, Nat.mul_one, Nat.add_zero] at this
    refine ⟨?_, ?_⟩
    · unfold World.cell?
      simp only [hh]
      rw [this]
      simp [bytesOfT, hj']
    · unfold World.frozen?
      simp only [hh]
      simp
  have hcall := hS b o c (bytesOfT xs) X.w0 hH hblt (by rw [hlen]; exact hsz)
  rw [hlen, ← sortTexts_bytes] at hcall
  refine hcall.mono fun e w' he => ?_
  obtain ⟨rfl, n, os, rfl⟩ := he
  refine ⟨_, rfl, sortedS_fin (drop ?_)⟩
  generalize hys : sortTexts xs = ys at *
  have hlenY : (bytesOfT ys).length = ys.length := List.length_map _
  have hown : own [.ghost [.osl 1], .row .str xs] β 1 = some b := by
    unfold own
    rw [hb]
    show ownB (.row .str xs) _ = _
    simp only [ownB]
    rw [if_neg (by omega)]
  have hs1 : (Sort.putRow Go.Proofs.encStr (Sort.ahead X.w0 n) b o (bytesOfT ys).toArray).heap.size = X.w0.heap.size := by simp
  have hheap : ∀ b', b' < X.w0.heap.size → (Sort.grow (Sort.putRow Go.Proofs.encStr (Sort.ahead X.w0 n) b o (bytesOfT ys).toArray) os).heap[b']? = if b = b' then X.w0.heap[b']?.map (Sort.onCells (Sort.putCells Go.Proofs.encStr o (bytesOfT ys).toArray)) else X.w0.heap[b']? := fun b' hb' => by
    rw [heapS_grow _ _ _ (by rw [hs1]; exact hb'), heapS_putRow]
    rfl
  refine (h.update (mem' := [.ghost [.osl 1], .row .str ys]) (al' := al) (w' := Sort.grow (Sort.putRow Go.Proofs.encStr (Sort.ahead X.w0 n) b o (bytesOfT ys).toArray) os) (β' := β) (ok' := ok) (fun i => i = 1) (fun _ h => h) (fun i hi _ => hi ▸ h.len 1 (by simp [Obj.kd])) (fun i hi => ?_) (fun _ _ => rfl)
    (fun i hi _ => .inl ⟨by subst hi; rfl, rfl⟩) (fun i hi hg => by subst hi; exact absurd (show KD.row .str = KD.ghost from hg) (by simp)) (fun b' hb' hne => ?_) ?_ (fun _ h => h) (fun _ h => .inl h) (fun ext i hi => ?_) (fun i b' hi hb' => ?_) (fun i j _ hi hj _ _ => by rw [hi, hj]) (fun i b' hi hb' => ?_) rfl rfl rfl).2
  · match i, hi with
    | 0, _ => rfl
    | 1, hi => exact absurd rfl hi
    | i + 2, _ => rfl
  · rw [hheap b' hb', if_neg fun e => hne 1 rfl (by rw [hown, e])]
  · simp
  · subst hi
    show ObjRel _ _ _ _ _ _ 1 (.row .str ys)
    refine ⟨_, c, by rw [hb, hle], .inr ⟨b, o, Sort.putCells Go.Proofs.encStr o (bytesOfT ys).toArray arr, T, rfl, ?_, h0, by omega, ?_, ?_⟩⟩
    · rw [hheap b hblt, if_pos rfl, hh]
      rfl
    · simpa [Sort.putCells] using hsz'
    · refine lies_of (fun k x hk => ?_) ?_
      · obtain ⟨hk1, hk2⟩ := List.getElem?_eq_some_iff.1 hk
        refine ⟨[.string x], rfl, rfl, fun j u hj => ?_⟩
        cases j with
        | succ j => simp at hj
        | zero =>
          simp at hj
          subst hj
          simp only [Ty.size, Nat.mul_one, Nat.add_zero] at hsz' ⊢
          rw [putCellsS_get, Array.getElem?_eq_getElem (by omega), Option.map_some, if_pos (by omega)]
          rw [show o + k - o = k by omega]
          simp [bytesOfT, hk1, hk2]
      · obtain ⟨sp, s1, s2⟩ := hl.spare
        refine ⟨sp, by omega, fun k x hk => ?_⟩
        obtain ⟨us, a1, a2, a3⟩ := s2 k x hk
        have a2' : us = [.string x] := a2
        refine ⟨us, a1, a2', fun j u hj => ?_⟩
        have := a3 j u hj
        rw [hle, putCellsS_get, this]
        simp only [Option.map_some, Ty.size, Nat.mul_one]
        rw [if_neg (by omega)]
  · subst hi
    refine .inl ⟨1, rfl, ?_⟩
    unfold own at hb' ⊢
    rw [hb] at hb' ⊢
    simpa [ownB] using hb'
  · subst hi
    refine h.apart 1 b' ?_
    unfold own at hb'
    rw [hb] at hb' ⊢
    simpa [ownB] using hb'
end
end Go.Sk

/- What is told of a function that hands back the keys of a set of texts, ascending. -/
namespace Go.Sk
open Go Go.RowKit
def keysPrim (args : List V) (mem : List Obj) (ρ : RD) : Option ρ.El :=
  match args, mem, ρ with
  | [.one (.osl 1)], [.ghost [.osl 1], .map .str .bool false es t], ⟨[.one (.own .str), .one (.map .str .bool false t')], 1⟩ =>
    if t = true ∧ t' = true ∧ es.length * 16 ≤ 140737488355328 then some (sortTexts (es.map fun e => e.1), es) else none
  | _, _, _ => none
end Go.Sk

/- A frame that begins anew at a world on the way; a block beside the objects; the keys of a map, in whatever order they come. -/
set_option linter.unusedSimpArgs false
set_option linter.unusedVariables false
namespace Go.Sk
open Go

section
variable {X : Fr} {env : List V} {mem : List Obj} {al : Nat → Prop} {tmps : Array Value} {w w' : World} {β : Nat → Value} {ok : Nat → Prop}
/-- the frame of a world on the way -/
def Fr.here (X : Fr) (mem : List Obj) (β : Nat → Value) (w : World) (ok : Nat → Prop) : Fr := ⟨w, ok, fun b => ∃ i, own mem β i = some b, X.rd, X.gh⟩
theorem Inv.rebase (h : Inv X env mem al tmps w β ok) : Inv (X.here mem β w ok) env mem al tmps w β ok :=
  { h with
    gh := fun i hi => h.gh i hi
    apartR := h.apartR
    rdLt := fun b hb => by have := h.rdLt b hb; have := h.grow; show b < w.heap.size; omega
    okOld := fun b hb _ => .inl hb
    ownOld := fun i b hb _ => ⟨i, hb⟩
    keep := fun _ _ _ => rfl
    grow := Nat.le_refl _
    os := rfl
    out := rfl
    tape := rfl }
theorem Inv.unbase (h : Inv X env mem al tmps w β ok) {env' : List V} {mem' : List Obj} {al' : Nat → Prop} {tmps' : Array Value} {β' : Nat → Value} {ok' : Nat → Prop} (h' : Inv (X.here mem β w ok) env' mem' al' tmps' w' β' ok') : Inv X env' mem' al' tmps' w' β' ok' :=
  { h' with
    gh := fun i hi => h'.gh i hi
    apartR := h'.apartR
    rdLt := h.rdLt
    okOld := fun b hb hlt => by
      rcases h'.okOld b hb (by have := h.grow; show b < w.heap.size; omega) with h1 | ⟨i, h1⟩
      · exact h.okOld b h1 hlt
      · exact .inr (h.ownOld i b h1 hlt)
    ownOld := fun i b hb hlt => by
      obtain ⟨j, h1⟩ := h'.ownOld i b hb (by have := h.grow; show b < w.heap.size; omega)
      exact h.ownOld j b h1 hlt
    keep := fun b hb hno => by
      rw [h'.keep b (by have := h.grow; show b < w.heap.size; omega) fun ⟨i, hi⟩ => hno (h.ownOld i b hi hb)]
      exact h.keep b hb hno
    grow := Nat.le_trans h.grow h'.grow
    os := h'.os.trans h.os
    out := h'.out.trans h.out
    tape := h'.tape.trans h.tape }

/-- a block that is no object's -/
structure Beside (X : Fr) (mem : List Obj) (w : World) (β : Nat → Value) (ok : Nat → Prop) (r : Nat) : Prop where
  new : X.w0.heap.size ≤ r
  lt : r < w.heap.size
  ok : ¬ ok r
  own : ∀ i, own mem β i ≠ some r
theorem Inv.beside (h : Inv X env mem al tmps w β ok) {r : Nat} (hr : X.w0.heap.size ≤ r) (hro : ¬ ok r) (hrn : ∀ i, own mem β i ≠ some r) (hheap : ∀ b, b ≠ r → b < w.heap.size → w'.heap[b]? = w.heap[b]?) (hgrow : w.heap.size ≤ w'.heap.size)
    (os : w'.os = w.os) (out : w'.output = w.output) (tape : w'.tape = w.tape) : Inv X env mem al tmps w' β ok := by
  have ext : Ext w ok X.rd β (kds mem) al w' ok β (kds mem) al :=
    ⟨fun b hb => hheap b (fun e => hro (e ▸ hb)) (h.okLt b hb), fun b hb => hheap b (by have := h.rdLt b hb; omega) (by have := h.rdLt b hb; have := h.grow; omega), fun _ h => h, fun _ _ => .inl rfl, fun _ _ _ => rfl, fun _ h => h⟩
  exact { h with
    env := fun t v ht => (h.env t v ht).mono ext
    obj := fun i => ObjRel.mono ext rfl (fun b hb => hheap b (fun e => hrn i (e ▸ hb)) (ownB_lt (h.obj i) hb)) (h.obj i)
    okLt := fun b hb => Nat.lt_of_lt_of_le (h.okLt b hb) hgrow
    keep := fun b hb hno => by
      rw [hheap b (by omega) (by have := h.grow; omega)]
      exact h.keep b hb hno
    grow := Nat.le_trans h.grow hgrow
    os := os.trans h.os
    out := out.trans h.out
    tape := tape.trans h.tape }
/-- a new block beside the objects -/
theorem Inv.newBeside (h : Inv X env mem al tmps w β ok) (o : Go.Obj) : Inv X env mem al tmps (w.alloc o) β ok ∧ Beside X mem (w.alloc o) β ok w.heap.size := by
  have h1 : ¬ ok w.heap.size := fun hb => Nat.lt_irrefl _ (h.okLt _ hb)
  have h2 : ∀ i, own mem β i ≠ some w.heap.size := fun i hb => Nat.lt_irrefl _ (ownB_lt (h.obj i) hb)
  exact ⟨h.beside h.grow h1 h2 (fun b _ hb => heap_alloc_old w o hb) (by rw [size_alloc]; omega) rfl rfl rfl, ⟨h.grow, by rw [size_alloc]; omega, h1, h2⟩⟩
/-- it stays while the frame of a world on the way runs -/
theorem Beside.stays {r : Nat} (hb : Beside X mem w β ok r) {env' : List V} {mem' : List Obj} {al' : Nat → Prop} {tmps' : Array Value} {β' : Nat → Value} {ok' : Nat → Prop} (h' : Inv (X.here mem β w ok) env' mem' al' tmps' w' β' ok') :
    Beside X mem' w' β' ok' r ∧ w'.heap[r]? = w.heap[r]? :=
  ⟨⟨hb.new, Nat.lt_of_lt_of_le hb.lt h'.grow, fun h1 => by
    rcases h'.okOld r h1 hb.lt with h2 | ⟨i, h2⟩
    · exact hb.ok h2
    · exact hb.own i h2, fun i h1 => by
    obtain ⟨j, h2⟩ := h'.ownOld i r h1 hb.lt
    exact hb.own j h2⟩, h'.keep r hb.lt fun ⟨i, h2⟩ => hb.own i h2⟩
end

/-! ### regions by hand -/
section
variable {P : Program} {f : FuncId} {Post : Value → World → Prop}
theorem region_goes {id : Nat} {ops : Array Oper} {todo : List Item} {tmps : Array Value} {w : World} (h : wpOps P ops (QK fun tmps' w' => Goes P f Post todo tmps' w') (List.range ops.size) ⟨tmps, []⟩ w) :
    Goes P f Post (.code (.region id ops false) :: todo) tmps w := by
  intro cs
  obtain ⟨e, a', w', hq, harr⟩ := wp_region (id := id) h (fr0 f) todo cs
  cases e <;> try exact hq.elim
  obtain ⟨hd, hg⟩ := hq
  obtain ⟨v, w1, fr, h1, h2, h3, h4⟩ := hg cs
  rw [act_eta a' hd] at harr
  exact ⟨v, w1, fr, h1, Steps.trans harr h2, h3, h4⟩
theorem wpOps_nil {ops : Array Oper} {Q : Exit → Act → World → Prop} {a : Act} {w : World} (h : Q .normal a w) : wpOps P ops Q [] a w := h
/-- an operation without a guard that yields a value -/
theorem wpOps_value {ops : Array Oper} {Q : Exit → Act → World → Prop} {a : Act} {w w' : World} {i : Nat} {r : List Nat} {o : Oper} (ho : ops[i]? = some o) (hg : o.guard = none) {v : Value}
    (hv : (execOp a.eval o).run P w = .ok (.value v) w') (h : wpOps P ops Q r (a.put o.dst v) w') : wpOps P ops Q (i :: r) a w := by
  unfold wpOps
  rw [ho]
  simp only [Region.wanted, hg, if_true]
  refine .inl ?_
  unfold Oper.wp
  rw [hv]
  exact h
end

section
variable {P : Program} {f : FuncId} {Post : Value → World → Prop} {k : List Item} {tmps : Array Value} {w : World} {c : Code}
theorem Goes.seq' {a b : Code} (e : c = .seq a b) (h : Goes P f Post (.code a :: .code b :: k) tmps w) : Goes P f Post (.code c :: k) tmps w := by
  subst e
  exact h.step fun cs => .one step_seq
theorem Goes.block' {id : Nat} {b : Code} (e : c = .block id b) (h : Goes P f Post (.code b :: .inBlock id :: k) tmps w) : Goes P f Post (.code c :: k) tmps w := by
  subst e
  exact h.step fun cs => .one step_block
theorem Goes.loop' {b : Code} (e : c = .loop b) (h : Goes P f Post (.code b :: .inLoop b :: k) tmps w) : Goes P f Post (.code c :: k) tmps w := by
  subst e
  exact h.step fun cs => .one step_loop
theorem Goes.skip' (h : Goes P f Post k tmps w) : Goes P f Post (.code .skip :: k) tmps w := h.step fun cs => .one step_skip
theorem Goes.exit' {id : Nat} {k' : List Item} (e : exitTo id k = some k') (h : Goes P f Post k' tmps w) : Goes P f Post (.code (.exit id) :: k) tmps w := h.step fun cs => .one (step_exit e)
theorem Goes.cond' {o : Operand} {x y : Code} (e : c = .cond o x y) {t : Bool} (hv : (⟨tmps, []⟩ : Act).eval o = .bool t) (h : Goes P f Post (.code (if t then x else y) :: k) tmps w) : Goes P f Post (.code c :: k) tmps w := by
  subst e
  exact h.step fun cs => .one (step_cond hv)
theorem Goes.region' {id : Nat} {ops : Array Oper} (e : c = .region id ops false) (h : wpOps P ops (QK fun tmps' w' => Goes P f Post k tmps' w') (List.range ops.size) ⟨tmps, []⟩ w) : Goes P f Post (.code c :: k) tmps w := by
  subst e
  exact region_goes h
variable {o : Oper} {a : Act} {w' : World} {x : Operand}
theorem exec_move (h : o.op = .move x) : (execOp a.eval o).run P w = .ok (.value (a.eval x)) w := by
  unfold execOp
  simp only [h]
  rfl
theorem exec_assign (h : o.op = .assign x) : (execOp a.eval o).run P w = .ok (.value (a.eval x)) w := by
  unfold execOp
  simp only [h]
  rfl
theorem exec_next {b : Bool} (h : o.op = .next x b) {v : Value} (hr : (Instr.next (a.eval x) b o.type).run P w = .ok v w') : (execOp a.eval o).run P w = .ok (.value v) w' := by
  unfold execOp
  simp only [h, Sem.run_bind, hr]
  rfl
theorem exec_range {t : TypeId} (h : o.op = .range t x) {v : Value} (hr : (Instr.range t (a.eval x)).run P w = .ok v w') : (execOp a.eval o).run P w = .ok (.value v) w' := by
  unfold execOp
  simp only [h, Sem.run_bind, hr]
  rfl
theorem exec_entry (h : o.op = .entry x) {v : Value} (hr : (Instr.entry (a.eval x)).run P w = .ok v w') : (execOp a.eval o).run P w = .ok (.value v) w' := by
  unfold execOp
  simp only [h, Sem.run_bind, hr]
  rfl
theorem exec_extract {i : Nat} (h : o.op = .extract x i) {us : Array Value} {v : Value} (hx : a.eval x = .tuple us) (hv : us[i]? = some v) : (execOp a.eval o).run P w = .ok (.value v) w := by
  unfold execOp
  simp [h, Instr.extract, hx, hv]
end

/-! ### a segment that ends where it is said to -/
section
variable {P : Program} {R : Type} {call : CallF} {leaf : List KI → St → Option R}
theorem bif_none (b : Bool) : (bif b then (none : Option R) else none) = none := by cases b <;> rfl
theorem settleC_none {c : CV} {m : List Obj} {k : CV → List Obj → Tree} {fin : V → List Obj → Option R} (hk : ∀ c m, (k c m).interp call leaf fin = none) : (settleC c m k).interp call leaf fin = none := by
  unfold settleC
  split
  · split
    · simp only [Tree.interp, hk]
      exact bif_none _
    · simp only [Tree.interp, hk]
      exact bif_none _
    · exact hk _ _
  · exact hk _ _
theorem settleCs_none {fin : V → List Obj → Option R} : ∀ (cs : List CV) (m : List Obj) (k : List CV → List Obj → Tree), (∀ c m, (k c m).interp call leaf fin = none) → (settleCs cs m k).interp call leaf fin = none
  | [], m, k, hk => hk _ _
  | c :: r, m, k, hk => settleC_none fun c m => settleCs_none r m _ fun r m => hk _ _
theorem settleV_none {v : V} {m : List Obj} {k : V → List Obj → Tree} {fin : V → List Obj → Option R} (hk : ∀ c m, (k c m).interp call leaf fin = none) : (settleV v m k).interp call leaf fin = none := by
  cases v with
  | one c => exact settleC_none (k := fun c m => k (.one c) m) fun c m => hk _ _
  | agg cs => exact settleCs_none cs m _ fun c m => hk _ _
  | tup vs => exact hk _ _
theorem settleVs_none {fin : V → List Obj → Option R} : ∀ (vs : List V) (m : List Obj) (k : List V → List Obj → Tree), (∀ c m, (k c m).interp call leaf fin = none) → (settleVs vs m k).interp call leaf fin = none
  | [], m, k, hk => hk _ _
  | v :: r, m, k, hk => settleV_none fun v m => settleVs_none r m _ fun r m => hk _ _
theorem finT_none {fx : Fx} {s : St} : (finT P fx s).interp call leaf (fun _ _ => none) = none := by
  unfold finT
  split
  · exact settleVs_none _ _ _ fun _ _ => rfl
  · rfl
open Classical in
/-- the end of a segment -/
noncomputable def atEnd (ks : List KI) (s : St) (ks' : List KI) (s' : St) : Option Unit := if ks' = ks ∧ s' = s then some () else none
theorem atEnd_self {ks : List KI} {s : St} : atEnd ks s ks s = some () := by unfold atEnd; rw [if_pos ⟨rfl, rfl⟩]
theorem atEnd_spec {ks ks' : List KI} {s s' : St} {x : Unit} (h : atEnd ks s ks' s' = some x) : ks' = ks ∧ s' = s := by
  unfold atEnd at h
  split at h
  · assumption
  · cases h
/-- from here to there -/
theorem to_goes {C : Cfg} {X : Fr} {f : FuncId} {Post : Value → World → Prop} (hm : P.follows .mixedOrders = true) (hcall : CallOk P C call) {fn : Func} (hf : P.funcs[f]? = some fn) {ks ks' : List KI} {s s' : St}
    (h : (seg P C (fxOf P f) segFuel ks s).interp call (atEnd ks' s') (fun _ _ => none) = some ()) {al : Nat → Prop} {tmps : Array Value} {w : World} {β : Nat → Value} {ok : Nat → Prop} (hI : Inv X s.env s.mem al tmps w β ok) (hal : ∀ j, s.mem.length ≤ j → ¬ al j)
    (hk : ∀ {al : Nat → Prop} {tmps : Array Value} {w : World} {β : Nat → Value} {ok : Nat → Prop}, Inv X s'.env s'.mem al tmps w β ok → (∀ j, s'.mem.length ≤ j → ¬ al j) → Goes P f Post (start ks') tmps w) : Goes P f Post (items ks) tmps w :=
  seg_goes (C := C) (X := X) (R := Unit) (PostR := fun _ => Post) (fin := fun _ _ => none) hm hcall hf (fun ks1 s1 x hx al tmps w β ok hI hal => by
    obtain ⟨rfl, rfl⟩ := atEnd_spec hx
    exact hk hI hal) (fun s x hx => by rw [finT_none] at hx; cases hx) segFuel ks s () h hI hal
theorem callOk_none {C : Cfg} (h : (∀ g, C.ref g = .apart → ApartFn P g) ∧ ∀ g g', C.ref g = .maker g' → MakerFn P g g') : CallOk P C (fun _ _ _ _ => none) := ⟨fun _ _ _ _ _ h => (nomatch h), h⟩
end

/-! ### parts of code -/
def sq1 : Code → Code
  | .seq a _ => a
  | c => c
def sq2 : Code → Code
  | .seq _ a => a
  | c => c
def blkOf : Code → Code
  | .block _ a => a
  | c => c
def lpOf : Code → Code
  | .loop a => a
  | c => c
def opsOf : Code → Array Oper
  | .region _ o _ => o
  | _ => #[]

/-! ### a set of texts -/
theorem sortTexts_perm {l l' : List ByteArray} (h : l.Perm l') : sortTexts l = sortTexts l' := by
  have h1 := mergeSort_of_perm (h.map fun a : ByteArray => a.data.toList)
  have h2 := sortTexts_bytes l
  have h3 := sortTexts_bytes l'
  have h4 : bytesOfT (sortTexts l) = bytesOfT (sortTexts l') := h2.trans (h1.trans h3.symm)
  refine (List.map_inj_right (f := fun a : ByteArray => a.data.toList) fun a b hab => ?_).1 h4
  cases a; cases b
  exact congrArg _ (Array.toList_inj.1 hab)
/-- the entries of a map from texts to booleans, as they lie -/
def setArr (es : List (ByteArray × Bool)) : Array MapEntry := (es.mapIdx fun k p => (⟨.string p.1, .bool p.2, k⟩ : MapEntry)).toArray
theorem setArr_of {w : World} {ok : Nat → Prop} {es : List (ByteArray × Bool)} {arr : Array MapEntry} {clock : Nat} (h : MapIs w ok .str .bool false es true arr clock) : arr = setArr es ∧ clock = es.length := by
  obtain ⟨h1, h2, h3, _⟩ := h
  obtain ⟨h4, h5⟩ := h3 rfl
  refine ⟨?_, h4⟩
  apply Array.ext
  · simp [setArr, h1]
  · intro k hk1 hk2
    have hk : k < es.length := by simpa [setArr] using hk2
    obtain ⟨a, us, b, c⟩ := h2 k es[k] arr[k] (List.getElem?_eq_getElem hk) (Array.getElem?_eq_getElem hk1)
    have hb := h5 k arr[k] (Array.getElem?_eq_getElem hk1)
    have ha : [arr[k].key] = [.string es[k].1] := a
    have hu : us = [.bool es[k].2] := b
    have hc : us = [arr[k].val] := c
    rw [hu] at hc
    simp only [List.cons.injEq, and_true] at ha hc
    simp only [setArr, List.getElem_toArray, List.getElem_mapIdx]
    generalize arr[k] = e at ha hc hb
    obtain ⟨e1, e2, e3⟩ := e
    simp only at ha hc hb
    subst ha hb hc
    rfl
theorem setArr_mem {es : List (ByteArray × Bool)} {e : MapEntry} (h : e ∈ (setArr es).toList) : ∃ k, ∃ hk : k < es.length, e = ⟨.string es[k].1, .bool es[k].2, k⟩ := by
  simp only [setArr] at h
  obtain ⟨k, hk, rfl⟩ := List.mem_mapIdx.1 h
  exact ⟨k, hk, rfl⟩
theorem setArr_at {es : List (ByteArray × Bool)} {k : Nat} (hk : k < es.length) : (⟨.string es[k].1, .bool es[k].2, k⟩ : MapEntry) ∈ (setArr es).toList := by
  simp only [setArr]
  exact List.mem_mapIdx.2 ⟨k, hk, rfl⟩
theorem setArr_born (es : List (ByteArray × Bool)) : ((setArr es).toList.map (·.born)).Nodup := by
  have : (setArr es).toList.map (·.born) = List.range es.length := by
    simp only [setArr]
    refine List.ext_getElem (by simp) fun i h1 h2 => by simp
  rw [this]
  exact List.nodup_range
def keyAt (es : List (ByteArray × Bool)) (i : Nat) : ByteArray := ((es[i]?).map (·.1)).getD ByteArray.empty
theorem keyAt_lt {es : List (ByteArray × Bool)} {k : Nat} (hk : k < es.length) : keyAt es k = es[k].1 := by simp [keyAt, hk]
/-- what was met: numbers of entries, none twice -/
structure KeyMet (es : List (ByteArray × Bool)) (seen : Array Nat) (acc : List ByteArray) : Prop where
  nd : seen.toList.Nodup
  lt : ∀ i ∈ seen.toList, i < es.length
  acc : acc = seen.toList.map (keyAt es)
theorem KeyMet.nil (es : List (ByteArray × Bool)) : KeyMet es #[] [] := ⟨List.nodup_nil, fun i hi => by simp at hi, rfl⟩
theorem KeyMet.push {es : List (ByteArray × Bool)} {seen : Array Nat} {acc : List ByteArray} (h : KeyMet es seen acc) {k : Nat} (hk : k < es.length) (hn : seen.contains k = false) : KeyMet es (seen.push k) (acc ++ [es[k].1]) := by
  have hn' : k ∉ seen := by simpa using hn
  refine ⟨?_, fun i hi => ?_, ?_⟩
  · rw [Array.toList_push, List.nodup_append]
    exact ⟨h.nd, by simp, fun a ha b hb e => hn' (by simp at hb; subst hb; subst e; simpa using ha)⟩
  · rw [Array.toList_push] at hi
    rcases List.mem_append.1 hi with hi | hi
    · exact h.lt i hi
    · simp at hi; omega
  · rw [Array.toList_push, List.map_append, h.acc]
    simp [keyAt_lt hk]
theorem KeyMet.len {es : List (ByteArray × Bool)} {seen : Array Nat} {acc : List ByteArray} (h : KeyMet es seen acc) : acc.length ≤ es.length := by
  have h1 : acc.length = seen.toList.length := by rw [h.acc, List.length_map]
  have : seen.toList.length ≤ (List.range es.length).length := h.nd.length_le_of_subset fun i hi => List.mem_range.2 (h.lt i hi)
  simpa [h1] using this
theorem KeyMet.done {es : List (ByteArray × Bool)} {seen : Array Nat} {acc : List ByteArray} (h : KeyMet es seen acc) (h0 : (leftOf (setArr es) seen).size = 0) : acc.Perm (es.map (·.1)) := by
  have hp : seen.toList.Perm (List.range es.length) := by
    refine (List.perm_ext_iff_of_nodup h.nd List.nodup_range).2 fun i => ⟨fun hi => List.mem_range.2 (h.lt i hi), fun hi => ?_⟩
    have hi := List.mem_range.1 hi
    have := all_seen (setArr es) seen h0 _ (setArr_at hi)
    simpa using this
  rw [h.acc]
  refine (hp.map _).trans (.of_eq ?_)
  refine List.ext_getElem (by simp) fun i h1 h2 => ?_
  simp at h1
  simp [keyAt_lt h1]
theorem getD_set_same {a : Array Value} {i : Nat} (h : i < a.size) (v : Value) : (a.setIfInBounds i v).getD i undef = v := by
  simp [Array.getD_eq_getD_getElem?, h]
theorem getD_set_other {a : Array Value} {i j : Nat} (h : i ≠ j) (v : Value) : (a.setIfInBounds i v).getD j undef = a.getD j undef := by
  simp [Array.getD_eq_getD_getElem?, Array.getElem?_setIfInBounds, h]
/-- the map that was handed over -/
theorem Inv.mapAt {X : Fr} {env : List V} {mem : List Obj} {al : Nat → Prop} {tmps : Array Value} {w : World} {β : Nat → Value} {ok : Nat → Prop} (h : Inv X env mem al tmps w β ok) {es : List (ByteArray × Bool)}
    (h0 : mem.getD 0 .dead = .ghost [.osl 1]) (h1 : mem.getD 1 .dead = .map .str .bool false es true) : ∃ bm, X.gh = .tuple #[.map (some bm)] ∧ β 1 = .map (some bm) ∧ w.heap[bm]? = some (.map (setArr es) es.length) ∧ own mem β 1 = some bm := by
  have hg := h.gh 0 (by show (mem.getD 0 .dead).kd = _; rw [h0]; rfl)
  have ho := h.obj 0
  rw [h0] at ho
  obtain ⟨us, h2, h3⟩ := ho
  obtain ⟨v, r, rfl, h4, h5⟩ := h3.head
  have hr : r = [] := by have := h5.1; simpa using this
  subst hr
  have hv : v = β 1 := by
    cases h4 with
    | osl _ _ _ hk _ => exact hk (by show (mem.getD 1 .dead).kd ≠ _; rw [h1]; simp [Obj.kd])
  have hm := h.obj 1
  rw [h1] at hm
  obtain ⟨bm, arr, clock, e1, e2, e3⟩ := hm
  obtain ⟨rfl, rfl⟩ := setArr_of e3
  refine ⟨bm, ?_, e1, e2, ?_⟩
  · rw [← hg, h2, hv, e1]
  · unfold own
    rw [h1, e1]
    rfl
/-- temporaries are forgotten -/
theorem Inv.forget {X : Fr} {env env' : List V} {mem : List Obj} {al : Nat → Prop} {tmps : Array Value} {w : World} {β : Nat → Value} {ok : Nat → Prop} (h : Inv X env mem al tmps w β ok) (hl : env'.length = env.length)
    (he : ∀ (t : Nat) v, env'[t]? = some v → env[t]? = some v ∨ v = uv) : Inv X env' mem al tmps w β ok :=
  { h with
    size := by rw [hl]; exact h.size
    env := fun t v ht => by
      rcases he t v ht with h1 | rfl
      · exact h.env t v h1
      · exact .one _ _ (.undef _) }
end Go.Sk

/- slices.Sorted over the keys of a map from ints, as maps.Keys hands them on: what is told of it, from its contract over any world. -/
set_option linter.unusedSimpArgs false
set_option linter.unusedVariables false
namespace Go.Sk
open Go Go.RowKit

def insInt (a : Int) : List Int → List Int
  | [] => [a]
  | b :: r => bif decide (a ≤ b) then a :: b :: r else b :: insInt a r
/-- ints, ascending -/
def sortInts : List Int → List Int
  | [] => []
  | a :: r => insInt a (sortInts r)
theorem insInt_perm (a : Int) : ∀ l : List Int, (insInt a l).Perm (a :: l)
  | [] => .refl _
  | b :: r => by
    unfold insInt
    cases decide (a ≤ b) with
    | true => exact .refl _
    | false => exact ((insInt_perm a r).cons b).trans (.swap a b r)
theorem sortInts_perm : ∀ l : List Int, (sortInts l).Perm l
  | [] => .refl _
  | a :: r => (insInt_perm a _).trans ((sortInts_perm r).cons a)
theorem insInt_sorted (a : Int) : ∀ l : List Int, l.Pairwise (· ≤ ·) → (insInt a l).Pairwise (· ≤ ·)
  | [], _ => by simp [insInt]
  | b :: r, h => by
    obtain ⟨h1, h2⟩ := List.pairwise_cons.1 h
    unfold insInt
    by_cases hab : a ≤ b
    · rw [decide_eq_true hab]
      refine List.pairwise_cons.2 ⟨fun x hx => ?_, h⟩
      rcases List.mem_cons.1 hx with rfl | hx
      · exact hab
      · exact Int.le_trans hab (h1 x hx)
    · rw [decide_eq_false hab]
      refine List.pairwise_cons.2 ⟨fun x hx => ?_, insInt_sorted a r h2⟩
      rcases List.mem_cons.1 ((insInt_perm a r).mem_iff.1 hx) with rfl | hx
      · omega
      · exact h1 x hx
theorem sortInts_sorted : ∀ l : List Int, (sortInts l).Pairwise (· ≤ ·)
  | [] => .nil
  | a :: r => insInt_sorted a _ (sortInts_sorted r)
theorem sortInts_eq {l l' : List Int} (hp : l'.Perm l) (hs : l'.Pairwise (· ≤ ·)) : sortInts l = l' :=
  List.Perm.eq_of_pairwise (fun a b _ _ h1 h2 => Int.le_antisymm h1 h2) (sortInts_sorted l) hs ((sortInts_perm l).trans hp.symm)
theorem sortInts_merge (l : List Int) : sortInts l = l.mergeSort fun x y => decide (x ≤ y) := by
  refine sortInts_eq (List.mergeSort_perm _ _) ?_
  have := List.pairwise_mergeSort (le := fun x y : Int => decide (x ≤ y)) (fun a b c h1 h2 => by simp only [decide_eq_true_eq] at *; exact Int.le_trans h1 h2) (fun a b => by simp only [Bool.or_eq_true, decide_eq_true_eq]; exact Int.le_total a b) l
  exact this.imp fun h => by simpa using h
def freshInt (a : Int) : List Int → Bool
  | [] => true
  | b :: r => !decide (a = b) && freshInt a r
def nodupI : List Int → Bool
  | [] => true
  | a :: r => freshInt a r && nodupI r
theorem freshInt_iff (a : Int) : ∀ l : List Int, freshInt a l = true ↔ a ∉ l
  | [] => by simp [freshInt]
  | b :: r => by simp [freshInt, freshInt_iff a r]
theorem nodupI_iff : ∀ l : List Int, nodupI l = true ↔ l.Nodup
  | [] => by simp [nodupI]
  | a :: r => by simp [nodupI, freshInt_iff, nodupI_iff r, List.nodup_cons]
def intsOk (l : List Int) : Bool := l.all fun n => decide (-9223372036854775808 ≤ n) && decide (n ≤ 9223372036854775807)
/-- what is told of slices.Sorted at an iterator g' over a map's keys -/
def intKeysPrim (g' : FuncId) (args : List V) (mem : List Obj) (ρ : RD) : Option ρ.El :=
  match args, mem, ρ with
  | [.one (.fn f [.ptr 1 0])], [.ghost [.osl 2], .cells [.osl 2], .map (.int .i64) vt true es tidy], ⟨[.one (.ty (.slice (.int .i64))), .one (.map (.int .i64) vt' true tidy')], 1⟩ =>
    match decM (.int .i64) vt' (.int .i64) vt es with
    | some es' => bif f == g' && tidy == tidy' && nodupI (es'.map (·.1)) && intsOk (es'.map (·.1)) && decide (es'.length * 8 ≤ 140737488355328) then some (sortInts (es'.map (·.1)), es') else none
    | none => none
  | _, _, _ => none

theorem eqT_self : ∀ t : Ty, Ty.eq? t t = some ⟨rfl⟩
  | .bool | .str | .unit => rfl
  | .int k => by cases k <;> rfl
  | .pair a b => by simp [Ty.eq?, eqT_self a, eqT_self b]
  | .slice a => by simp [Ty.eq?, eqT_self a]
theorem decM_self (kt vt : Ty) (es : List (El kt × El vt)) : decM kt vt kt vt es = some es := by
  unfold decM
  rw [eqT_self kt, eqT_self vt]
/-- a map of these keys, as the kit knows it -/
theorem ownsKeys {P : Program} {k : TypeId} (hk : P.underlying k = some (.int .i64)) {w : World} {r : Nat} {arr : Array MapEntry} {clock : Nat} {ks : List Int} (hh : w.heap[r]? = some (.map arr clock)) (hs : arr.size = ks.length)
    (hkey : ∀ (j : Nat) x e, ks[j]? = some x → arr[j]? = some e → e.key = .int .i64 x) (hnd : ks.Nodup) (hok : intsOk ks = true) (hB : Born arr clock) (hlen : ks.length * 8 ≤ 140737488355328) :
    ∃ D : DataW Unit, w.ownsMap P k (fun _ => some (.nil, [])) r ks.length D ∧ Maps.size D = ks.length ∧ ∀ l : List Int, l.Perm (intKeys D) → l.Perm ks := by
  have hmap : arr.toList.map (·.key) = ks.map encZ := by
    apply List.ext_getElem?
    intro j
    simp only [List.getElem?_map, Array.getElem?_toList]
    rcases Nat.lt_or_ge j ks.length with h | h
    · have h1 : ks[j]? = some ks[j] := List.getElem?_eq_getElem h
      have h2 : arr[j]? = some (arr[j]'(by omega)) := Array.getElem?_eq_getElem (by omega)
      rw [h1, h2, Option.map_some, Option.map_some, hkey j _ _ h1 h2]
    · rw [List.getElem?_eq_none h, Array.getElem?_eq_none (by omega)]
      rfl
  have hmem : ∀ x ∈ arr.toList, ∃ n ∈ ks, x.key = encZ n := fun x hx => by
    have : x.key ∈ arr.toList.map (·.key) := List.mem_map.2 ⟨x, hx, rfl⟩
    rw [hmap] at this
    obtain ⟨n, hn, e⟩ := List.mem_map.1 this
    exact ⟨n, hn, e.symm⟩
  have hwf : ∀ n ∈ ks, (Lit.int .i64 n).wf = true := fun n hn => by
    have := List.all_eq_true.1 hok n hn
    exact this
  have hkof : ∀ n ∈ ks, keyOf P k (encZ n) = some (.int .i64 n) := fun n hn => by
    simp [keyOf, hk, mapKey, hwf n hn]
  have hst : MapKept.Stamped arr clock := by
    refine ⟨hB.1, hB.2, ?_⟩
    rw [hmap]
    exact hnd.map encZ fun a b h e => h (encZ_inj e)
  let R : Value → Option (DataW Unit × List MemPlace) := fun _ => some (.nil, [])
  have hrd : ∀ x ∈ arr.toList, ∃ n ∈ ks, x.key = encZ n ∧ WideElems.rd P k R x = some (.int .i64 n, .nil) := fun x hx => by
    obtain ⟨n, hn, e⟩ := hmem x hx
    refine ⟨n, hn, e, ?_⟩
    unfold WideElems.rd
    rw [e, hkof n hn]
    rfl
  have hF : WideElems.Fit P k R arr clock := ⟨by rw [hs]; unfold maxLen; omega, hst, fun x hx => by obtain ⟨n, _, _, h⟩ := hrd x hx; exact ⟨_, h⟩⟩
  refine ⟨.map ((arr.toList.map (WideElems.rg P k R)).foldr DataW.insert []), ⟨arr, clock, hh, hF, by omega, rfl⟩, ?_, fun l hl => ?_⟩
  · rw [Maps.size_eq, Go.length_sorted]
    simp [hs]
  · refine hl.trans ?_
    have hp := (WideShapes.sorted_perm (arr.toList.map (WideElems.rg P k R))).map fun p => intOf p.1
    refine hp.trans (.of_eq ?_)
    rw [List.map_map]
    have : ks = (ks.map encZ).map fun v => match v with | .int _ n => n | _ => 0 := by
      rw [List.map_map]
      symm
      exact List.map_id' _
    rw [this, ← hmap, List.map_map]
    refine List.map_congr_left fun x hx => ?_
    obtain ⟨n, hn, e, h⟩ := hrd x hx
    simp only [Function.comp]
    rw [WideElems.rg_of h, e]
    rfl

section
variable {P : Program} {g g' : FuncId} {k T : TypeId}
/-- what slices.Sorted does at an iterator over a map's keys -/
def SortsKeys (P : Program) (g g' : FuncId) (k T : TypeId) : Prop :=
  ∀ (B r n : Nat) (D : DataW Unit) (R : Value → Option (DataW Unit × List MemPlace)) (w : World), w.cell? ⟨B, 0, none⟩ = some (.map (some r)) → w.ownsMap P k R r n D → Maps.size D * 8 ≤ 140737488355328 →
    Calls P g #[.func (.func g') #[] #[.pointer (some ⟨B, 0, none⟩)]] w fun e w' => ∃ (v : Value) (ss : List Int), e = .returned v ∧ ss.Perm (intKeys D) ∧
      w'.ownsRow w.heap.size T 1 v ss.length ((ss.mergeSort (fun x y => decide (x ≤ y))).map encZ) ∧ (v = .slice none 0 0 ↔ ss = []) ∧ Below w.heap.size w w'

theorem sortedKeys_told (hk : P.underlying k = some (.int .i64)) (hS : SortsKeys P g g' k T) {vt : Ty} {es : List (Int × El vt)} {tidy : Bool} (hnd : (es.map (·.1)).Nodup) (hok : intsOk (es.map (·.1)) = true) (hlen : es.length * 8 ≤ 140737488355328)
    (hF : ∀ ys, finR ⟨[.one (.ty (.slice (.int .i64))), .one (.map (.int .i64) vt true tidy)], 1⟩ (.one (.slc (.int .i64) ys)) [.ghost [.osl 2], .cells [.osl 2], .map (.int .i64) vt true es tidy] = some (ys, es)) :
    FnSpec P g [.one (.fn g' [.ptr 1 0])] [.ghost [.osl 2], .cells [.osl 2], .map (.int .i64) vt true es tidy] ⟨[.one (.ty (.slice (.int .i64))), .one (.map (.int .i64) vt true tidy)], 1⟩ (sortInts (es.map (·.1)), es) := by
  intro X al us β ok h hal
  obtain ⟨b, us1, T', hb, hh, hl, hs⟩ := (show ObjRel X.w0 ok X.rd β (kds [.ghost [.osl 2], .cells [.osl 2], .map (.int .i64) vt true es tidy]) al 1 (.cells [.osl 2]) from h.obj 1)
  obtain ⟨r, arr, clock, hr, hm, hM⟩ := (show ObjRel X.w0 ok X.rd β (kds [.ghost [.osl 2], .cells [.osl 2], .map (.int .i64) vt true es tidy]) al 2 (.map (.int .i64) vt true es tidy) from h.obj 2)
  obtain ⟨u0, rest, rfl, hu0, hrest⟩ := hl.head
  have hre : rest = [] := by have := hrest.1; simpa using this
  subst hre
  have hu0' : u0 = .map (some r) := by
    cases hu0 with
    | osl _ _ hi hk _ => rw [← hr]; exact hk (by show KD.map ≠ KD.none; simp)
  subst hu0'
  have hus : us = #[.func (.func g') #[] #[.pointer (some ⟨b, 0, none⟩)]] := by
    have h1 := (h.env 0 _ rfl).one'
    refine one_arg h ?_
    generalize us.getD 0 undef = u at h1
    cases h1 with
    | fn f cs vs hl2 h2 =>
      match vs, hl2 with
      | [p], _ =>
        have hp := h2 0 (.ptr 1 0) p rfl rfl
        cases hp with
        | ptr _ _ _ hi hk2 _ =>
          obtain ⟨b', e1, e2⟩ := hk2 rfl
          rw [hb] at e1
          cases e1
          rw [e2]
  subst hus
  obtain ⟨D, hD1, hD2, hD3⟩ := ownsKeys (P := P) hk (ks := es.map (·.1)) hm (by rw [hM.1, List.length_map]) (fun j x e hx he => by
    rw [List.getElem?_map, Option.map_eq_some_iff] at hx
    obtain ⟨p, hp, rfl⟩ := hx
    have := (hM.2.1 j p e hp he).1
    have h3 : [e.key] = [.int .i64 p.1] := this
    simpa using h3) hnd hok hM.2.2.2 (by rw [List.length_map]; exact hlen)
  have hcell : X.w0.cell? ⟨b, 0, none⟩ = some (.map (some r)) := by simp [World.cell?, hh]
  refine (hS b r _ D _ X.w0 hcell hD1 (by rw [hD2, List.length_map]; exact hlen)).mono fun e w' he => ?_
  obtain ⟨v, ss, rfl, hp, hrow, hnil, hbel⟩ := he
  refine ⟨v, rfl, ?_⟩
  have hpk := hD3 ss hp
  have hss : ss.mergeSort (fun x y => decide (x ≤ y)) = sortInts (es.map (·.1)) := (mergeSort_of_perm_i hpk).trans (sortInts_merge _).symm
  rw [hss] at hrow
  have hlss : ss.length = (sortInts (es.map (·.1))).length := by rw [(sortInts_perm _).length_eq]; exact hpk.length_eq
  generalize hys : sortInts (es.map (·.1)) = ys at *
  rw [hlss] at hrow
  obtain ⟨ext, hI⟩ := h.update (mem' := [.ghost [.osl 2], .cells [.osl 2], .map (.int .i64) vt true es tidy]) (al' := al) (w' := w') (β' := β) (ok' := fun b => ok b ∨ (X.w0.heap.size ≤ b ∧ b < w'.heap.size)) (fun i => False) (fun _ h => h) (fun i hi _ => hi.elim) (fun i hi => rfl) (fun i hi => rfl)
    (fun i hi ha => hi.elim) (fun i hi hg => hi.elim) (fun b' hb' _ => hbel.block b' hb') hbel.size (fun _ h => .inl h) (fun _ h => h.elim .inl fun h => .inr (.inr h)) (fun ext i hi => hi.elim) (fun i b' hi hb' => hi.elim) (fun i j _ hi hj _ _ => hi.elim) (fun i b' hi hb' => hi.elim) hbel.os hbel.output hbel.tape
  have hrel : ∃ A c, v = .slice A ys.length c ∧ ys.length ≤ c ∧ RowAt w' (fun b => ok b ∨ (X.w0.heap.size ≤ b ∧ b < w'.heap.size)) (RepE w' (fun b => ok b ∨ (X.w0.heap.size ≤ b ∧ b < w'.heap.size)) (.int .i64)) 1 A ys := by
    rcases hrow.2 with ⟨rfl, h0⟩ | ⟨gb, cap, cur, rfl, g1, g2, g3, g4, g5, g6⟩
    · have : ys = [] := List.eq_nil_of_length_eq_zero h0
      subst this
      exact ⟨none, 0, rfl, Nat.le_refl _, .inl rfl⟩
    · refine ⟨_, cap, rfl, g3, .inr ⟨gb, 0, rfl, .inr ⟨g1, (Array.getElem?_eq_some_iff.1 g2).1⟩, fun j x hj => ?_⟩⟩
      have hj' : j < ys.length := (List.getElem?_eq_some_iff.1 hj).1
      refine ⟨[.int .i64 x], rfl, rfl, fun q u hq => ?_⟩
      cases q with
      | succ q => simp at hq
      | zero =>
        simp at hq
        subst hq
        have h1 : (cur.toList.take (ys.length * 1))[j]? = (ys.map encZ)[j]? := by rw [g6]
        rw [List.getElem?_take_of_lt (by omega), List.getElem?_map, hj] at h1
        simp only [Array.getElem?_toList, Option.map_some] at h1
        unfold World.cell?
        simp only [g2]
        simpa using h1
  obtain ⟨A, c, hv, hlc, hR⟩ := hrel
  have hI0 : Inv X [] [.ghost [.osl 2], .cells [.osl 2], .map (.int .i64) vt true es tidy] al #[] w' β (fun b => ok b ∨ (X.w0.heap.size ≤ b ∧ b < w'.heap.size)) := { hI with size := rfl, env := fun t v ht => by simp at ht }
  refine fin_post (ρ := ⟨[.one (.ty (.slice (.int .i64))), .one (.map (.int .i64) vt true tidy)], 1⟩) (x := (ys, es)) (q := .one (.slc (.int .i64) ys)) hI0 (.one _ _ ?_) (hF ys)
  rw [hv]
  exact .slc _ _ _ _ hlc hR

theorem intKeysPrim_spec (hk : P.underlying k = some (.int .i64)) (hS : SortsKeys P g g' k T) {args : List V} {mem : List Obj} {ρ : RD} {x : ρ.El} (hx : intKeysPrim g' args mem ρ = some x) : FnSpec P g args mem ρ x := by
  unfold intKeysPrim at hx
  split at hx
  · rename_i f vt es tidy vt' tidy'
    split at hx
    · rename_i es' he
      cases hc : (f == g' && tidy == tidy' && nodupI (es'.map (·.1)) && intsOk (es'.map (·.1)) && decide (es'.length * 8 ≤ 140737488355328)) with
      | false => rw [hc] at hx; cases hx
      | true =>
        rw [hc] at hx
        simp only [Bool.and_eq_true, beq_iff_eq, decide_eq_true_eq, nodupI_iff] at hc
        obtain ⟨⟨⟨⟨rfl, rfl⟩, h1⟩, h2⟩, h3⟩ := hc
        obtain ⟨_, e, h4⟩ := decM_spec he
        subst e
        simp only at h4
        subst h4
        cases hx
        refine sortedKeys_told hk hS h1 h2 h3 fun ys => ?_
        cases tidy <;> (simp [finR, rootVs, ghostCs, unpackVs, unpackVD, unpack, dropC, valsOf, takeMap]; rw [he]; rfl)
    · cases hx
  · cases hx
end
end Go.Sk

/- Plain words for the equations: integers that do not wrap, indexes, tests. -/
set_option linter.unusedSimpArgs false
set_option linter.unusedVariables false
namespace Go.Sk
open Go

theorem wr_in {x : Int} (h0 : -9223372036854775808 ≤ x) (h1 : x ≤ 9223372036854775807) : IntKind.i64.wrap x = x := by
  exact IntWalk.i64_in _ ⟨h0, h1⟩
theorem wr_succ {k n : Nat} (h : k < n) (hn : n ≤ 9223372036854775807) : IntKind.i64.wrap ((k : Int) + 1) = ((k + 1 : Nat) : Int) := by
  rw [wr_in (by omega) (by omega)]; rfl
theorem idx_nat {α : Type} (xs : List α) (k : Nat) : idx xs (k : Int) = xs[k]? := by
  unfold idx; rw [if_pos (by omega)]; rfl
theorem cond_dec {α : Type} {p : Prop} [Decidable p] (x y : α) : (bif decide p then x else y) = if p then x else y := by
  by_cases h : p <;> simp [h]
theorem min_if (a b : Nat) : (if (b : Int) < (a : Int) then (b : Int) else (a : Int)) = ((min a b : Nat) : Int) := by
  by_cases h : b < a
  · rw [if_pos (by omega)]; congr 1; omega
  · rw [if_neg (by omega)]; congr 1; omega
theorem dec_in {n : Nat} {k : Nat} (h : k < n) : (decide (0 ≤ (k : Int)) && decide ((k : Int) < (n : Int))) = true := by
  simp [h]
theorem lt_true {k n : Nat} (h : k < n) : decide ((k : Int) < (n : Int)) = true := by simp [h]
theorem lt_false {k n : Nat} (h : n ≤ k) : decide ((k : Int) < (n : Int)) = false := by simp; omega

/-! ### loops over lists -/
section
variable {α β γ : Type}
/-- a loop over a list, with a state and early ends -/
def foldE (step : β → α → Option (γ ⊕ β)) (fin : β → Option γ) : List α → β → Option γ
  | [], b => fin b
  | x :: r, b => (step b x).bind fun q => match q with | .inl g => some g | .inr b' => foldE step fin r b'
theorem loopE (xs : List α) (step : β → α → Option (γ ⊕ β)) (fin : β → Option γ) (F : β → Int → Option γ)
    (hF : ∀ b (k : Nat) (hk : k < xs.length), F b k = (step b xs[k]).bind fun q => match q with | .inl g => some g | .inr b' => F b' ((k + 1 : Nat) : Int))
    (hE : ∀ b, F b xs.length = fin b) (b : β) : F b 0 = foldE step fin xs b := by
  have key : ∀ m k b, k + m = xs.length → F b k = foldE step fin (xs.drop k) b := by
    intro m
    induction m with
    | zero => intro k b hk; rw [List.drop_of_length_le (by omega), show k = xs.length by omega, hE]; rfl
    | succ m ih =>
      intro k b hk
      have hlt : k < xs.length := by omega
      rw [hF b k hlt, List.drop_eq_getElem_cons hlt]
      simp only [foldE]
      congr 1
      funext q
      cases q with
      | inl g => rfl
      | inr b' => exact ih (k + 1) b' (by omega)
  simpa using key xs.length 0 b (by omega)
/-- the same, where a round looks at its number -/
theorem loopI (xs : List α) (step : β → α × Nat → Option (γ ⊕ β)) (fin : β → Option γ) (F : β → Int → Option γ)
    (hF : ∀ b (k : Nat) (hk : k < xs.length), F b k = (step b (xs[k], k)).bind fun q => match q with | .inl g => some g | .inr b' => F b' ((k + 1 : Nat) : Int))
    (hE : ∀ b, F b xs.length = fin b) (b : β) : F b 0 = foldE step fin xs.zipIdx b :=
  loopE xs.zipIdx step fin F (fun b k hk => by
    have hk' : k < xs.length := by simpa using hk
    rw [hF b k hk']
    simp) (fun b => by rw [List.length_zipIdx]; exact hE b) b
/-- no early end: a fold -/
theorem foldE_foldl (f : β → α → β) (fin : β → Option γ) : ∀ (xs : List α) (b : β), foldE (fun b x => some (.inr (f b x))) fin xs b = fin (xs.foldl f b)
  | [], b => rfl
  | x :: r, b => by simp only [foldE, Option.bind_some, List.foldl_cons]; exact foldE_foldl f fin r _
theorem foldE_congr {step step' : β → α → Option (γ ⊕ β)} {fin : β → Option γ} : ∀ {xs : List α} (h : ∀ b x, x ∈ xs → step b x = step' b x) (b : β), foldE step fin xs b = foldE step' fin xs b
  | [], _, b => rfl
  | x :: r, h, b => by
    simp only [foldE]
    rw [h b x (by simp)]
    congr 1
    funext q
    cases q with
    | inl g => rfl
    | inr b' => exact foldE_congr (fun b y hy => h b y (by simp [hy])) b'
/-- the first element that a test holds of -/
theorem foldE_find (p : α → Bool) (g : Nat → γ) (d : Option γ) : ∀ (xs : List α) (n : Nat), foldE (fun (b : Unit) (q : α × Nat) => some (bif p q.1 then .inl (g q.2) else .inr b)) (fun _ => d) (xs.zipIdx n) () = match xs.findIdx? p with | some k => some (g (n + k)) | none => d
  | [], n => rfl
  | x :: r, n => by
    simp only [List.zipIdx_cons, foldE, Option.bind_some, List.findIdx?_cons]
    cases h : p x with
    | true => simp
    | false =>
      simp only [cond_false]
      rw [foldE_find p g d r (n + 1)]
      cases r.findIdx? p <;> simp
      congr 1
      omega
theorem find_findIdx (p : α → Bool) : ∀ (xs : List α), xs.find? p = (xs.findIdx? p).bind fun k => xs[k]?
  | [] => rfl
  | x :: r => by
    rw [List.find?_cons, List.findIdx?_cons]
    cases h : p x with
    | true => simp
    | false =>
      simp only [Bool.false_eq_true, if_false]
      rw [find_findIdx p r]
      cases r.findIdx? p <;> simp
/-- the first element, itself handed on -/
theorem foldE_find1 (p : α → Bool) (g : α → γ) (d : Option γ) : ∀ (xs : List α), foldE (fun (b : Unit) (x : α) => some (bif p x then .inl (g x) else .inr b)) (fun _ => d) xs () = match xs.find? p with | some x => some (g x) | none => d
  | [] => rfl
  | x :: r => by
    simp only [foldE, Option.bind_some, List.find?_cons]
    cases h : p x with
    | true => simp
    | false => simp only [cond_false]; exact foldE_find1 p g d r
/-- what a test holds of is collected -/
theorem foldE_filter {δ : Type} (p : α → Bool) (f : α → δ) (c M : Nat) (fin : List δ → Option γ) : ∀ (xs : List α) (acc : List δ), (acc.length + xs.length) * c ≤ M →
    foldE (fun acc x => bif p x then (bif decide ((acc.length + 1) * c ≤ M) then some (.inr (acc ++ [f x])) else none) else some (.inr acc)) fin xs acc = fin (acc ++ (xs.filter p).map f)
  | [], acc, _ => by simp [foldE]
  | x :: r, acc, h => by
    simp only [foldE, List.filter_cons]
    have h1 : (acc.length + 1) * c ≤ M := Nat.le_trans (Nat.mul_le_mul_right c (by simp)) h
    cases hp : p x with
    | false =>
      simp only [cond_false, Option.bind_some, Bool.false_eq_true, if_false]
      exact foldE_filter p f c M fin r acc (Nat.le_trans (Nat.mul_le_mul_right c (by simp)) h)
    | true =>
      simp only [cond_true, h1, decide_true, Option.bind_some, if_true, List.map_cons]
      rw [foldE_filter p f c M fin r (acc ++ [f x]) (by simp at h ⊢; rw [show acc.length + 1 + r.length = acc.length + (r.length + 1) by omega]; exact h)]
      simp
end
end Go.Sk

/- Loops that count, as plain functions of a list. -/
set_option linter.unusedVariables false
namespace Go.Sk

section
variable {α β γ : Type}
/-- the first number that a test holds of ends it -/
theorem cnt_loop (n : Nat) (F : Int → Option γ) (bad : Nat → Bool) (r : γ) (d : Option γ) (hF : ∀ k : Nat, k < n → F k = bif bad k then some r else F ((k + 1 : Nat) : Int)) (hE : F n = d) :
    F 0 = bif (List.range n).any bad then some r else d := by
  have key : ∀ m k : Nat, k + m = n → F k = bif (List.range' k m).any bad then some r else d := by
    intro m
    induction m with
    | zero => intro k hk; rw [show k = n by omega, hE]; rfl
    | succ m ih =>
      intro k hk
      rw [hF k (by omega), List.range'_succ, List.any_cons]
      cases bad k with
      | true => rfl
      | false => exact ih (k + 1) (by omega)
  have := key n 0 (by omega)
  rw [List.range_eq_range']
  exact this
/-- the first element that a test holds of ends it -/
theorem any_loop (xs : List α) (F : Int → Option γ) (bad : α → Bool) (r : γ) (d : Option γ) (hF : ∀ (k : Nat) (hk : k < xs.length), F k = bif bad xs[k] then some r else F ((k + 1 : Nat) : Int)) (hE : F xs.length = d) :
    F 0 = bif xs.any bad then some r else d := by
  have key : ∀ m k : Nat, k + m = xs.length → F k = bif (xs.drop k).any bad then some r else d := by
    intro m
    induction m with
    | zero => intro k hk; rw [show k = xs.length by omega, hE, List.drop_length]; rfl
    | succ m ih =>
      intro k hk
      have hlt : k < xs.length := by omega
      rw [hF k hlt, List.drop_eq_getElem_cons hlt, List.any_cons]
      cases bad xs[k] with
      | true => rfl
      | false => exact ih (k + 1) (by omega)
  exact key xs.length 0 (by omega)
def found (g : Nat → γ) (d : Option γ) : Option Nat → Option γ
  | some k => some (g k)
  | none => d
/-- a place in a list, or -1 -/
def pos1 : Option Nat → Int
  | some k => k
  | none => -1
theorem found_pos (o : Option Nat) : found (fun k => (k : Int)) (some (-1)) o = some (pos1 o) := by cases o <;> rfl
/-- the number of the first element that a test holds of -/
theorem find_loop (xs : List α) (F : Int → Option γ) (p : α → Bool) (g : Nat → γ) (d : Option γ) (hF : ∀ (k : Nat) (hk : k < xs.length), F k = bif p xs[k] then some (g k) else F ((k + 1 : Nat) : Int)) (hE : F xs.length = d) :
    F 0 = found g d (xs.findIdx? p) := by
  have key : ∀ m k : Nat, k + m = xs.length → F k = found (fun j => g (k + j)) d ((xs.drop k).findIdx? p) := by
    intro m
    induction m with
    | zero => intro k hk; rw [show k = xs.length by omega, hE, List.drop_length]; rfl
    | succ m ih =>
      intro k hk
      have hlt : k < xs.length := by omega
      rw [hF k hlt, List.drop_eq_getElem_cons hlt, List.findIdx?_cons]
      cases p xs[k] with
      | true => rfl
      | false =>
        rw [cond_false, ih (k + 1) (by omega)]
        cases (xs.drop (k + 1)).findIdx? p with
        | none => rfl
        | some j => show some (g (k + 1 + j)) = some (g (k + (j + 1))); rw [show k + 1 + j = k + (j + 1) by omega]
  have := key xs.length 0 (by omega)
  simpa using this
/-- a state that each element changes -/
theorem fold_loop (xs : List α) (F : β → Int → Option γ) (f : β → α → β) (inv : β → Nat → Prop) (fin : β → Option γ) (hF : ∀ (b : β) (k : Nat) (hk : k < xs.length), inv b k → F b k = F (f b xs[k]) ((k + 1 : Nat) : Int))
    (hI : ∀ (b : β) (k : Nat) (hk : k < xs.length), inv b k → inv (f b xs[k]) (k + 1)) (hE : ∀ b, inv b xs.length → F b xs.length = fin b) (b : β) (h0 : inv b 0) : F b 0 = fin (xs.foldl f b) := by
  have key : ∀ m k b, k + m = xs.length → inv b k → F b k = fin ((xs.drop k).foldl f b) := by
    intro m
    induction m with
    | zero =>
      intro k b hk hi
      have e : k = xs.length := by omega
      subst e
      rw [hE _ hi, List.drop_length]; rfl
    | succ m ih =>
      intro k b hk hi
      have hlt : k < xs.length := by omega
      rw [hF b k hlt hi, List.drop_eq_getElem_cons hlt, List.foldl_cons]
      exact ih (k + 1) _ (by omega) (hI b k hlt hi)
  exact key xs.length 0 b (by omega) h0
/-- what a test holds of is collected -/
theorem filter_loop (xs : List α) (F : List β → Int → Option γ) (p : α → Bool) (g : α → β) (fin : List β → Option γ) (hF : ∀ (acc : List β) (k : Nat) (hk : k < xs.length), acc.length ≤ k → F acc k = bif p xs[k] then F (acc ++ [g xs[k]]) ((k + 1 : Nat) : Int) else F acc ((k + 1 : Nat) : Int))
    (hE : ∀ acc, acc.length ≤ xs.length → F acc xs.length = fin acc) : F [] 0 = fin ((xs.filter p).map g) := by
  have e : ∀ (l : List α) (acc : List β), l.foldl (fun acc x => if p x then acc ++ [g x] else acc) acc = acc ++ (l.filter p).map g := by
    intro l
    induction l with
    | nil => intro acc; simp
    | cons a r ih =>
      intro acc
      rw [List.foldl_cons, ih, List.filter_cons]
      cases h : p a <;> simp
  have := fold_loop xs F (fun acc x => if p x then acc ++ [g x] else acc) (fun acc k => acc.length ≤ k) fin (fun acc k hk hi => by
    rw [hF acc k hk hi]
    cases h : p xs[k] <;> simp) (fun acc k hk hi => by
    cases h : p xs[k] <;> simp <;> omega) hE [] (Nat.zero_le _)
  rw [this, e]
  simp
/-- each element is taken over -/
theorem map_loop (xs : List α) (F : List β → Int → Option γ) (g : α → β) (fin : List β → Option γ) (hF : ∀ (acc : List β) (k : Nat) (hk : k < xs.length), acc.length = k → F acc k = F (acc ++ [g xs[k]]) ((k + 1 : Nat) : Int))
    (hE : ∀ acc, acc.length = xs.length → F acc xs.length = fin acc) : F [] 0 = fin (xs.map g) := by
  have e : ∀ (l : List α) (acc : List β), l.foldl (fun acc x => acc ++ [g x]) acc = acc ++ l.map g := by
    intro l
    induction l with
    | nil => intro acc; simp
    | cons a r ih => intro acc; rw [List.foldl_cons, ih]; simp
  have := fold_loop xs F (fun acc x => acc ++ [g x]) (fun acc k => acc.length = k) fin hF (fun acc k hk hi => by simp [hi]) hE [] rfl
  rw [this, e]
  simp
/-- downward -/
theorem down_loop (xs : List α) (F : β → Int → Option γ) (f : β → α → β) (fin : β → Option γ) (hF : ∀ (b : β) (k : Nat) (hk : k < xs.length), F b k = F (f b xs[k]) ((k : Int) - 1)) (hE : ∀ b, F b (-1) = fin b) (b : β) : F b ((xs.length : Int) - 1) = fin (xs.reverse.foldl f b) := by
  have key : ∀ m b, m ≤ xs.length → F b ((m : Int) - 1) = fin ((xs.take m).reverse.foldl f b) := by
    intro m
    induction m with
    | zero => intro b _; simpa using hE b
    | succ m ih =>
      intro b hm
      have hlt : m < xs.length := by omega
      have e : xs.take (m + 1) = xs.take m ++ [xs[m]] := by rw [List.take_add_one, List.getElem?_eq_getElem hlt]; rfl
      rw [show (((m + 1 : Nat) : Int) - 1) = (m : Int) by omega, hF b m hlt, ih _ (by omega), e, List.reverse_append]
      rfl
  have := key xs.length b (Nat.le_refl _)
  rwa [List.take_length] at this
/-- lists, compared element by element -/
theorem equal_loop (a b : List α) (hl : a.length = b.length) (F : Int → Option Bool) (hF : ∀ (k : Nat) (ha : k < a.length) (hb : k < b.length), (a[k] ≠ b[k] → F k = some false) ∧ (a[k] = b[k] → F k = F ((k + 1 : Nat) : Int))) (hE : F a.length = some true) :
    ∃ r, F 0 = some r ∧ (r = true ↔ a = b) := by
  have key : ∀ m k : Nat, k + m = a.length → ∃ r, F k = some r ∧ (r = true ↔ a.drop k = b.drop k) := by
    intro m
    induction m with
    | zero =>
      intro k hk
      refine ⟨true, by rw [show k = a.length by omega, hE], ?_⟩
      rw [List.drop_of_length_le (by omega), List.drop_of_length_le (by omega)]
      simp
    | succ m ih =>
      intro k hk
      have ha : k < a.length := by omega
      have hb : k < b.length := by omega
      rw [List.drop_eq_getElem_cons ha, List.drop_eq_getElem_cons hb]
      by_cases h : a[k] = b[k]
      · obtain ⟨r, h1, h2⟩ := ih (k + 1) (by omega)
        exact ⟨r, by rw [(hF k ha hb).2 h, h1], by rw [h2, h]; simp only [List.cons.injEq, true_and]⟩
      · exact ⟨false, (hF k ha hb).1 h, by simp only [List.cons.injEq, h, false_and, Bool.false_eq_true]⟩
  obtain ⟨r, h1, h2⟩ := key a.length 0 (by omega)
  exact ⟨r, h1, by simpa using h2⟩
theorem findIdx_ge (xs : List α) (p : α → Bool) : decide (pos1 (xs.findIdx? p) ≥ 0) = xs.any p := by
  induction xs with
  | nil => rfl
  | cons a r ih =>
    rw [List.findIdx?_cons, List.any_cons]
    cases h : p a with
    | true => rfl
    | false =>
      simp only [Bool.false_eq_true, if_false, Bool.false_or]
      rw [← ih]
      cases r.findIdx? p with
      | none => rfl
      | some k => exact (decide_eq_true (by show ((k + 1 : Nat) : Int) ≥ 0; omega)).trans (decide_eq_true (by show ((k : Nat) : Int) ≥ 0; omega)).symm
end
end Go.Sk

/- Texts, tests that meet again, decided equalities. -/
set_option linter.unusedVariables false
namespace Go.Sk
theorem toList_inj {a b : ByteArray} (h : a.toList = b.toList) : a = b := by
  rw [ByteArray.toList_eq, ByteArray.toList_eq] at h
  exact ByteArray.ext (Array.toList_inj.1 h)
theorem toList_beq (a b : ByteArray) : (a.toList == b.toList) = decide (a = b) := by
  by_cases h : a = b
  · rw [h, decide_eq_true rfl]; exact beq_self_eq_true _
  · rw [decide_eq_false h]; exact beq_eq_false_iff_ne.2 fun e => h (toList_inj e)
theorem size_zero {s : ByteArray} : s = { data := #[] } ↔ s.size = 0 := by
  constructor
  · intro h; rw [h]; rfl
  · intro h
    obtain ⟨d⟩ := s
    have hd : d.size = 0 := h
    rw [Array.eq_empty_of_size_eq_zero hd]
theorem empty_iff (s : ByteArray) : (ByteArray.toList s == ByteArray.toList { data := #[] }) = decide (s.size = 0) := by
  rw [toList_beq]
  exact decide_eq_decide.2 size_zero
theorem byteAt_nat (s : ByteArray) (k : Nat) (hk : k < s.size) : byteAt s (k : Int) = some (s[k].toNat : Int) := by
  unfold byteAt
  rw [if_pos (by omega), Int.toNat_natCast, getElem?_pos s k hk]
  rfl
theorem dec_le (a b : Int) : decide (a ≤ b) = !decide (b < a) := by
  by_cases h : a ≤ b
  · rw [decide_eq_true h, decide_eq_false (by omega)]; rfl
  · rw [decide_eq_false h, decide_eq_true (by omega)]; rfl
theorem bne_beq {α : Type} [BEq α] (a b : α) : (a != b) = !(a == b) := rfl
theorem c1 (a b : Bool) : (bif a then some b else some false) = some (a && b) := by cases a <;> rfl
theorem c2 (a b : Bool) : (bif a then some true else some b) = some (a || b) := by cases a <;> rfl
theorem c3 (a x y : Bool) : (bif a then some y else some (x && y)) = some ((a || x) && y) := by cases a <;> cases x <;> rfl
theorem c4 (a b : Bool) : (bif a then some false else some b) = some (!a && b) := by cases a <;> rfl
theorem some_iff {r : Bool} {p : Prop} [Decidable p] (h : r = true ↔ p) : some r = some (decide p) := by
  congr 1
  cases r with
  | true => exact (decide_eq_true (h.1 rfl)).symm
  | false => exact (decide_eq_false fun hp => by cases h.2 hp).symm
theorem len_ne {α β : Type} (a : List α) (b : List β) : (((a.length : Int) != (b.length : Int)) = true ↔ a.length ≠ b.length) := by
  simp only [bne_iff_ne, ne_eq]
  omega
theorem len_eq {α β : Type} {a : List α} {b : List β} (h : ((a.length : Int) != (b.length : Int)) = false) : a.length = b.length := by
  have := len_ne a b
  rw [h] at this
  simpa using this
theorem cast_beq (n m : Nat) : (((n : Nat) : Int) == ((m : Nat) : Int)) = (n == m) := by
  by_cases h : n = m
  · simp [h]
  · rw [beq_eq_false_iff_ne.2 h, beq_eq_false_iff_ne.2 (by omega)]
theorem beq_dec {α : Type} [DecidableEq α] (a b : α) : (a == b) = decide (a = b) := rfl
theorem bne_dec {α : Type} [DecidableEq α] (a b : α) : (a != b) = !decide (a = b) := rfl
theorem prev_idx {α : Type} (l : List α) (k : Nat) (hk : k < l.length) (hl : l.length ≤ 9223372036854775807) (h0 : 0 < k) : idx l (IntKind.i64.wrap ((k : Int) - 1)) = some (l[k - 1]'(by omega)) := by
  rw [wr_in (by omega) (by omega), show (k : Int) - 1 = ((k - 1 : Nat) : Int) by omega, idx_nat, List.getElem?_eq_getElem (by omega)]
/-- two lists, compared element by element, each with a function -/
theorem equal_fun {α : Type} [DecidableEq α] {eqf : α → α → Option Bool} (a b : List α) (ha : ∀ x ∈ a, ∀ y, eqf x y = some (decide (x = y))) (F : Int → Option Bool) (hl : a.length = b.length)
    (hF : ∀ (k : Nat) (h1 : k < a.length) (h2 : k < b.length), F k = (eqf a[k] b[k]).bind fun r => bif !r then some false else F ((k + 1 : Nat) : Int)) (hE : F a.length = some true) : F 0 = some (decide (a = b)) := by
  obtain ⟨r, h1, h2⟩ := equal_loop a b hl F (fun k h1 h2 => by
    rw [hF k h1 h2, ha _ (List.getElem_mem h1)]
    exact ⟨fun h => by rw [decide_eq_false h]; rfl, fun h => by rw [decide_eq_true h]; rfl⟩) hE
  exact h1.trans (some_iff h2)
end Go.Sk

/- Numbers as bytes, seven bits each; plain words for bits. -/
set_option linter.unusedSimpArgs false
set_option linter.unusedVariables false
namespace Go.Sk
open Go

/-! ### kinds -/
theorem wrap_u64 (x : Int) : IntKind.u64.wrap x = x % 18446744073709551616 := by
  unfold IntKind.wrap
  simp [IntKind.signed, IntKind.bits]
theorem wrap_u8 (x : Int) : IntKind.u8.wrap x = x % 256 := by
  unfold IntKind.wrap
  simp [IntKind.signed, IntKind.bits]
theorem wrap_i64 (x : Int) : IntKind.i64.wrap x = if 9223372036854775808 ≤ x % 18446744073709551616 then x % 18446744073709551616 - 18446744073709551616 else x % 18446744073709551616 := by
  unfold IntKind.wrap
  simp [IntKind.signed, IntKind.bits]
theorem u64_nat {n : Nat} (h : n < 18446744073709551616) : IntKind.u64.wrap (n : Int) = n := by
  rw [wrap_u64]; omega
theorem u8_nat {n : Nat} (h : n < 256) : IntKind.u8.wrap (n : Int) = n := by
  rw [wrap_u8]; omega
theorem i64_nat {n : Nat} (h : n < 9223372036854775808) : IntKind.i64.wrap (n : Int) = n := wr_in (by omega) (by omega)
theorem tmod_nat (a b : Nat) : Int.tmod (a : Int) (b : Int) = ((a % b : Nat) : Int) := by
  rw [Int.tmod_eq_emod_of_nonneg (by omega)]; rfl
theorem tdiv_nat (a b : Nat) : Int.tdiv (a : Int) (b : Int) = ((a / b : Nat) : Int) := by
  rw [Int.tdiv_eq_ediv_of_nonneg (by omega)]; rfl
theorem bv_nat {n : Nat} (h : n < 18446744073709551616) : (BitVec.ofInt 64 (n : Int)).toNat = n := by
  rw [BitVec.toNat_ofInt]; omega
theorem bv8_nat {n : Nat} (h : n < 256) : (BitVec.ofInt 8 (n : Int)).toNat = n := by
  rw [BitVec.toNat_ofInt]; omega

/-! ### bits -/
theorem and127 {c : Nat} (h : c < 256) : IntKind.u8.wrap (((BitVec.ofInt 8 (c : Int) &&& BitVec.ofInt 8 127).toNat : Nat) : Int) = ((c % 128 : Nat) : Int) := by
  rw [BitVec.toNat_and, bv8_nat h, show (BitVec.ofInt 8 127).toNat = 2 ^ 7 - 1 from rfl, Nat.and_two_pow_sub_one_eq_mod, show (2 : Nat) ^ 7 = 128 from rfl]
  exact u8_nat (by omega)
theorem pow7 {k : Nat} (h : k ≤ 9) : (2 : Int) ^ min (Int.toNat (IntKind.i64.wrap (7 * (k : Int)))) 64 = ((2 ^ (7 * k) : Nat) : Int) := by
  rw [wr_in (by omega) (by omega), show (7 * (k : Int)).toNat = 7 * k by omega, Nat.min_eq_left (by omega), Int.natCast_pow]
  rfl
theorem or_add {n c k : Nat} (hn : n < 2 ^ (7 * k)) (hc : c * 2 ^ (7 * k) < 18446744073709551616) (hs : n < 18446744073709551616) :
    IntKind.u64.wrap (((BitVec.ofInt 64 (n : Int) ||| BitVec.ofInt 64 (IntKind.u64.wrap ((c : Int) * ((2 ^ (7 * k) : Nat) : Int)))).toNat : Nat) : Int) = ((n + c * 2 ^ (7 * k) : Nat) : Int) := by
  rw [← Int.natCast_mul, u64_nat hc, BitVec.toNat_or, bv_nat hs, bv_nat hc, ← Nat.shiftLeft_eq, Nat.or_comm, ← Nat.shiftLeft_add_eq_or_of_lt hn, Nat.add_comm]
  refine u64_nat ?_
  rw [Nat.add_comm, Nat.shiftLeft_add_eq_or_of_lt hn, Nat.or_comm]
  exact Nat.or_lt_two_pow (n := 64) hs (by rw [Nat.shiftLeft_eq]; exact hc)

/-! ### the code of a number -/
/-- seven bits in a byte, the lowest first; 128 and more: another one follows -/
def uvL (n : Nat) : List Nat := if h : n < 128 then [n] else (128 + n % 128) :: uvL (n / 128)
termination_by n
decreasing_by omega
theorem uvL_small {n : Nat} (h : n < 128) : uvL n = [n] := by rw [uvL, dif_pos h]
theorem uvL_big {n : Nat} (h : ¬ n < 128) : uvL n = (128 + n % 128) :: uvL (n / 128) := by rw [uvL, dif_neg h]
theorem uvL_lt : ∀ (n : Nat), ∀ c ∈ uvL n, c < 256 := by
  intro n
  induction n using Nat.strongRecOn with
  | ind n ih =>
    intro c hc
    by_cases h : n < 128
    · rw [uvL_small h] at hc
      simp at hc
      omega
    · rw [uvL_big h] at hc
      rcases List.mem_cons.1 hc with rfl | hc
      · omega
      · exact ih (n / 128) (by omega) c hc
theorem uvL_len : ∀ (k n : Nat), n < 128 ^ (k + 1) → (uvL n).length ≤ k + 1
  | 0, n, h => by rw [uvL_small (by simpa using h)]; simp
  | k + 1, n, h => by
    by_cases h1 : n < 128
    · rw [uvL_small h1]; simp
    · rw [uvL_big h1]
      have := uvL_len k (n / 128) (by rw [Nat.div_lt_iff_lt_mul (by omega)]; rw [Nat.pow_succ] at h; exact h)
      simp; omega
theorem uvL_len10 {n : Nat} (h : n < 18446744073709551616) : (uvL n).length ≤ 10 := uvL_len 9 n (Nat.lt_trans h (by decide))
theorem uvL_pos (n : Nat) : 0 < (uvL n).length := by
  rw [uvL]; split <;> simp
/-- bytes as a text -/
def txt (l : List Nat) : ByteArray := ⟨(l.map UInt8.ofNat).toArray⟩
theorem txt_append (a b : List Nat) : txt a ++ txt b = txt (a ++ b) := by
  apply ByteArray.ext
  simp [txt]
theorem txt_size (a : List Nat) : (txt a).size = a.length := by simp [txt, ByteArray.size]
theorem txt_bytes (a : List Nat) : bytesOf (a.map fun n : Nat => (n : Int)) = txt a := by
  apply ByteArray.ext
  simp [txt, bytesOf]
theorem bytesOf_append (a b : List Int) : bytesOf a ++ bytesOf b = bytesOf (a ++ b) := by
  apply ByteArray.ext
  simp [bytesOf]
/-- the bytes of a text -/
def bts (s : ByteArray) : List Nat := s.data.toList.map UInt8.toNat
theorem bts_len (s : ByteArray) : (bts s).length = s.size := by
  rw [bts, List.length_map, Array.length_toList]
  rfl
theorem bts_append (a b : ByteArray) : bts (a ++ b) = bts a ++ bts b := by
  show ((a ++ b).data.toList).map _ = _
  rw [ByteArray.data_append, Array.toList_append, List.map_append]
  rfl
theorem bts_txt {l : List Nat} (h : ∀ c ∈ l, c < 256) : bts (txt l) = l := by
  simp only [bts, txt, List.map_map]
  refine (List.map_congr_left fun c hc => ?_).trans (List.map_id _)
  have := h c hc
  simp [UInt8.toNat_ofNat]
  omega
theorem txt_bts (s : ByteArray) : txt (bts s) = s := by
  apply ByteArray.ext
  have e : (UInt8.ofNat ∘ UInt8.toNat) = id := by funext x; simp
  simp [bts, txt, e]
theorem bts_inj {a b : ByteArray} (h : bts a = bts b) : a = b := by rw [← txt_bts a, ← txt_bts b, h]
theorem bts_lt (s : ByteArray) : ∀ c ∈ bts s, c < 256 := by
  intro c hc
  simp only [bts, List.mem_map] at hc
  obtain ⟨x, _, rfl⟩ := hc
  exact x.toNat_lt
theorem byteAt_bts (s : ByteArray) (k : Nat) (hk : k < (bts s).length) : byteAt s (k : Int) = some (((bts s)[k] : Nat) : Int) := by
  rw [byteAt_nat s k (by rw [← bts_len]; exact hk)]
  simp [bts]
  rfl
def uvT (n : Nat) : ByteArray := txt (uvL n)

/-- a number is read: what was read, the place behind it, the error -/
def tkB : (l : List Nat) → (n k p : Nat) → Int × Int × Int
  | [], n, k, p => if k < 10 then (0, 0, 4) else (0, 0, 5)
  | c :: r, n, k, p => if 10 ≤ k then (0, 0, 5) else if k = 9 ∧ 1 < c then (0, 0, 5) else if c < 128 then (if c = 0 ∧ 0 < k then (0, 0, 5) else (((n + c * 2 ^ (7 * k) : Nat) : Int), ((p + 1 : Nat) : Int), 0)) else tkB r (n + (c % 128) * 2 ^ (7 * k)) (k + 1) (p + 1)
theorem tkB_uv (rest : List Nat) : ∀ (n acc k p : Nat), n * 2 ^ (7 * k) < 18446744073709551616 → (0 < k → n ≠ 0) → tkB (uvL n ++ rest) acc k p = (((acc + n * 2 ^ (7 * k) : Nat) : Int), ((p + (uvL n).length : Nat) : Int), 0) := by
  intro n
  induction n using Nat.strongRecOn with
  | ind n ih =>
    intro acc k p hb hk
    have hk9 : k ≤ 9 := by
      rcases Nat.lt_or_ge 9 k with h | h
      · exfalso
        have h1 := hk (by omega)
        have h2 : 2 ^ (7 * 10) ≤ 2 ^ (7 * k) := Nat.pow_le_pow_right (by omega) (by omega)
        have h3 : 2 ^ (7 * k) ≤ n * 2 ^ (7 * k) := Nat.le_mul_of_pos_left _ (by omega)
        have h4 : (2 : Nat) ^ (7 * 10) = 1180591620717411303424 := rfl
        omega
      · exact h
    have h9 : k = 9 → n ≤ 1 := fun e => by
      subst e
      rw [show (2 : Nat) ^ (7 * 9) = 9223372036854775808 from rfl] at hb
      omega
    by_cases h : n < 128
    · rw [uvL_small h]
      simp only [List.cons_append, List.nil_append, tkB]
      rw [if_neg (by omega), if_neg (by rintro ⟨h1, h2⟩; have := h9 h1; omega), if_pos h, if_neg (by rintro ⟨h1, h2⟩; exact hk h2 h1)]
      simp
    · rw [uvL_big h]
      simp only [List.cons_append, tkB]
      have hk8 : k ≤ 8 := by
        rcases Nat.lt_or_ge 8 k with h1 | h1
        · have := h9 (by omega); omega
        · exact h1
      have e : acc + (n % 128) * 2 ^ (7 * k) + n / 128 * 2 ^ (7 * (k + 1)) = acc + n * 2 ^ (7 * k) := by
        have h1 : 2 ^ (7 * (k + 1)) = 128 * 2 ^ (7 * k) := by rw [show 7 * (k + 1) = 7 * k + 7 by omega, Nat.pow_add, Nat.mul_comm]
        have h2 : n * 2 ^ (7 * k) = (128 * (n / 128) + n % 128) * 2 ^ (7 * k) := by rw [Nat.div_add_mod]
        rw [h1, h2, Nat.add_mul, ← Nat.mul_assoc, Nat.mul_comm (n / 128) 128]
        omega
      rw [if_neg (by omega), if_neg (by omega), if_neg (by omega), show (128 + n % 128) % 128 = n % 128 by omega,
        ih (n / 128) (by omega) _ (k + 1) (p + 1) (by omega) (by omega), e]
      simp
      omega
theorem tkB_fst : ∀ (l : List Nat) (n k p : Nat), (∀ c ∈ l, c < 256) → n < 2 ^ (7 * k) → ∃ u : Nat, (tkB l n k p).1 = u ∧ u < 18446744073709551616
  | [], n, k, p, _, _ => by
    unfold tkB
    split <;> exact ⟨0, rfl, by omega⟩
  | c :: r, n, k, p, hl, hn => by
    unfold tkB
    split
    · exact ⟨0, rfl, by omega⟩
    split
    · exact ⟨0, rfl, by omega⟩
    split
    · split
      · exact ⟨0, rfl, by omega⟩
      · rename_i h1 h2 h3 h4
        refine ⟨_, rfl, ?_⟩
        rcases Nat.lt_or_ge k 9 with h5 | h5
        · have h6 : 2 ^ (7 * k) ≤ 2 ^ (7 * 8) := Nat.pow_le_pow_right (by omega) (by omega)
          have h7 : c * 2 ^ (7 * k) ≤ 127 * 2 ^ (7 * 8) := Nat.mul_le_mul (by omega) h6
          have h8 : (2 : Nat) ^ (7 * 8) = 72057594037927936 := rfl
          omega
        · have h6 : k = 9 := by omega
          subst h6
          have h7 : (2 : Nat) ^ (7 * 9) = 9223372036854775808 := rfl
          rw [h7] at hn ⊢
          have h8 : c ≤ 1 := by omega
          have : c * 9223372036854775808 ≤ 1 * 9223372036854775808 := Nat.mul_le_mul_right _ h8
          omega
    · refine tkB_fst r _ (k + 1) (p + 1) (fun c hc => hl c (by simp [hc])) ?_
      have h1 : 2 ^ (7 * (k + 1)) = 128 * 2 ^ (7 * k) := by rw [show 7 * (k + 1) = 7 * k + 7 by omega, Nat.pow_add, Nat.mul_comm]
      have h2 : (c % 128) * 2 ^ (7 * k) ≤ 127 * 2 ^ (7 * k) := Nat.mul_le_mul_right _ (by omega)
      omega
/-- where it ends -/
theorem tkB_snd : ∀ (l : List Nat) (n k p : Nat), ∃ q : Nat, (tkB l n k p).2.1 = q ∧ q ≤ p + l.length ∧ ((tkB l n k p).2.2 = 0 → p < q)
  | [], n, k, p => by
    unfold tkB
    split <;> exact ⟨0, rfl, by omega, fun h => by cases h⟩
  | c :: r, n, k, p => by
    unfold tkB
    split
    · exact ⟨0, rfl, by omega, fun h => by cases h⟩
    split
    · exact ⟨0, rfl, by omega, fun h => by cases h⟩
    split
    · split
      · exact ⟨0, rfl, by omega, fun h => by cases h⟩
      · exact ⟨p + 1, rfl, by simp, fun _ => by omega⟩
    · obtain ⟨q, h1, h2, h3⟩ := tkB_snd r (n + (c % 128) * 2 ^ (7 * k)) (k + 1) (p + 1)
      exact ⟨q, h1, by simp; omega, fun h => by have := h3 h; omega⟩
/-- a number of a text, from a place on -/
def takeU (s : ByteArray) (a : Int) : Int × Int × Int := if a < 0 then (0, 0, 1) else if a > s.size then (0, 0, 1) else tkB ((bts s).drop a.toNat) 0 0 a.toNat
/-! ### numbers with a sign -/
def zz (n : Int) : Nat := if n < 0 then (-2 * n - 1).toNat else (2 * n).toNat
def unzz (u : Nat) : Int := if u % 2 = 1 then -((u / 2 : Nat) : Int) - 1 else ((u / 2 : Nat) : Int)
theorem unzz_zz (n : Int) : unzz (zz n) = n := by
  unfold unzz zz
  split <;> split <;> omega
abbrev I64 (n : Int) : Prop := -9223372036854775808 ≤ n ∧ n ≤ 9223372036854775807
theorem zz_lt {n : Int} (h : I64 n) : zz n < 18446744073709551616 := by
  obtain ⟨h1, h2⟩ := h
  unfold zz
  split <;> omega
theorem unzz_in {u : Nat} (h : u < 18446744073709551616) : I64 (unzz u) := by
  unfold unzz I64
  split <;> omega
theorem xor_ones {x : Nat} (h : x < 18446744073709551616) : (BitVec.ofInt 64 (x : Int) ^^^ BitVec.ofInt 64 18446744073709551615).toNat = 18446744073709551615 - x := by
  rw [show BitVec.ofInt 64 18446744073709551615 = BitVec.allOnes 64 from rfl, BitVec.xor_allOnes, BitVec.toNat_not, bv_nat h]
theorem zz_prog {n : Int} (h : I64 n) : IntKind.u64.wrap (((BitVec.ofInt 64 (IntKind.u64.wrap (IntKind.u64.wrap n * 2 ^ 1)) ^^^ BitVec.ofInt 64 (IntKind.u64.wrap (Int.fdiv n (2 ^ 63)))).toNat : Nat) : Int) = (zz n : Int) := by
  obtain ⟨h1, h2⟩ := h
  have hf : Int.fdiv n (2 ^ 63) = if n < 0 then -1 else 0 := by
    rw [Int.fdiv_eq_ediv_of_nonneg _ (by decide)]
    split <;> omega
  rw [hf]
  by_cases hn : n < 0
  · rw [if_pos hn]
    have e1 : IntKind.u64.wrap (IntKind.u64.wrap n * 2 ^ 1) = ((18446744073709551616 + 2 * n).toNat : Int) := by
      rw [wrap_u64, wrap_u64]; omega
    have e2 : IntKind.u64.wrap (-1) = 18446744073709551615 := by rw [wrap_u64]; rfl
    rw [e1, e2, xor_ones (by omega), u64_nat (by omega)]
    unfold zz
    rw [if_pos hn]
    omega
  · rw [if_neg hn]
    have e1 : IntKind.u64.wrap (IntKind.u64.wrap n * 2 ^ 1) = ((2 * n).toNat : Int) := by
      rw [wrap_u64, wrap_u64]; omega
    have e2 : IntKind.u64.wrap 0 = 0 := by rw [wrap_u64]; rfl
    rw [e1, e2, show BitVec.ofInt 64 0 = 0#64 from rfl, BitVec.xor_zero, bv_nat (by omega), u64_nat (by omega)]
    unfold zz
    rw [if_neg hn]
theorem zz_ref {n : Int} (h : I64 n) : (bif decide (n < 0) then IntKind.u64.wrap (IntKind.u64.wrap (2 * IntKind.u64.wrap (IntKind.i64.wrap (0 - IntKind.i64.wrap (n + 1)))) + 1) else IntKind.u64.wrap (2 * IntKind.u64.wrap n)) = (zz n : Int) := by
  obtain ⟨h1, h2⟩ := h
  unfold zz
  by_cases hn : n < 0
  · rw [decide_eq_true hn, cond_true, if_pos hn, wr_in (x := n + 1) (by omega) (by omega), wr_in (by omega) (by omega), wrap_u64, wrap_u64, wrap_u64]
    omega
  · rw [decide_eq_false hn, cond_false, if_neg hn, wrap_u64, wrap_u64]
    omega
theorem unzz_prog {u : Nat} (h : u < 18446744073709551616) : IntKind.i64.wrap (IntKind.u64.wrap (((BitVec.ofInt 64 (Int.fdiv (u : Int) (2 ^ 1)) ^^^ BitVec.ofInt 64 (IntKind.u64.wrap (0 - IntKind.u64.wrap (((BitVec.ofInt 64 (u : Int) &&& BitVec.ofInt 64 1).toNat : Nat) : Int)))).toNat : Nat) : Int)) = unzz u := by
  have hf : Int.fdiv (u : Int) (2 ^ 1) = ((u / 2 : Nat) : Int) := by
    rw [Int.fdiv_eq_ediv_of_nonneg _ (by decide)]; rfl
  have ha : (BitVec.ofInt 64 (u : Int) &&& BitVec.ofInt 64 1).toNat = u % 2 := by
    rw [BitVec.toNat_and, bv_nat h, show (BitVec.ofInt 64 1).toNat = 1 from rfl, Nat.and_one_is_mod]
  rw [hf, ha, u64_nat (n := u % 2) (by omega)]
  unfold unzz
  by_cases ho : u % 2 = 1
  · rw [if_pos ho, ho]
    have e2 : IntKind.u64.wrap (0 - ((1 : Nat) : Int)) = 18446744073709551615 := by rw [wrap_u64]; rfl
    rw [e2, xor_ones (by omega), u64_nat (by omega), wrap_i64]
    split <;> omega
  · rw [if_neg ho, show u % 2 = 0 by omega]
    have e2 : IntKind.u64.wrap (0 - ((0 : Nat) : Int)) = 0 := by rw [wrap_u64]; rfl
    rw [e2, show BitVec.ofInt 64 0 = 0#64 from rfl, BitVec.xor_zero, bv_nat (by omega), u64_nat (by omega), i64_nat (by omega)]
theorem unzz_ref {u : Nat} (h : u < 18446744073709551616) : (bif Int.tmod (u : Int) 2 == 1 then IntKind.i64.wrap (IntKind.i64.wrap (0 - IntKind.i64.wrap (IntKind.u64.wrap (Int.tdiv (u : Int) 2))) - 1) else IntKind.i64.wrap (IntKind.u64.wrap (Int.tdiv (u : Int) 2))) = unzz u := by
  rw [show (2 : Int) = ((2 : Nat) : Int) from rfl, tmod_nat, tdiv_nat, u64_nat (by omega), i64_nat (by omega)]
  unfold unzz
  by_cases ho : u % 2 = 1
  · rw [if_pos ho, ho]
    show IntKind.i64.wrap (IntKind.i64.wrap (0 - _) - 1) = _
    rw [wr_in (x := 0 - _) (by omega) (by omega), wr_in (by omega) (by omega)]
    omega
  · rw [if_neg ho, show u % 2 = 0 by omega]
    rfl
end Go.Sk

/- A law's arguments, as values of codes. -/
set_option linter.unusedSimpArgs false
set_option linter.unusedVariables false
set_option linter.unusedSectionVars false
namespace Go.Sk
open Go

/-- the bytes that a value of a code takes up at least -/
def cb : Ty → Nat
  | .bool => 1
  | .int k => k.bits / 8
  | .str => 16
  | .unit => 0
  | .pair a b => cb a + cb b
  | .slice _ => 24
mutual
/-- no slice in it has more than B elements -/
def shortD {H : Type} (B : Nat) : DataW H → Prop
  | .slice elems _ => elems.length ≤ B ∧ shortAll B elems
  | .agg parts => shortAll B parts
  | _ => True
def shortAll {H : Type} (B : Nat) : List (DataW H) → Prop
  | [] => True
  | d :: r => shortD B d ∧ shortAll B r
end
theorem shortAll_mem {H : Type} {B : Nat} : ∀ {l : List (DataW H)} {d : DataW H}, shortAll B l → d ∈ l → shortD B d
  | [], d, _, h => by simp at h
  | x :: r, d, hs, h => by
    unfold shortAll at hs
    rcases List.mem_cons.1 h with rfl | h
    · exact hs.1
    · exact shortAll_mem hs.2 h
/-- integers within their kinds; slices of at most B elements, no longer than the form's reach -/
def FitsB (B : Nat) : (t : Ty) → El t → Prop
  | .bool, _ => True
  | .int k, n => k.min ≤ n ∧ n ≤ k.max
  | .str, s => s.size ≤ 9223372036854775807
  | .unit, _ => True
  | .pair a b, x => FitsB B a x.1 ∧ FitsB B b x.2
  | .slice t, xs => (List.length (α := El t) xs ≤ B ∧ List.length (α := El t) xs * cb t ≤ reachBytes) ∧ ∀ x ∈ (show List (El t) from xs), FitsB B t x
abbrev Fits (t : Ty) (x : El t) : Prop := FitsB 9223372036854775807 t x

/-- the fields of a struct lie one behind another, and have cells -/
def layOk (P : Program) : Nat → TypeId → Bool
  | 0, _ => false
  | d + 1, t =>
    match P.underlying t with
    | some .bool | some (.int _) | some .string => true
    | some (.slice e) => layOk P d e && (match tyOf P d e with | some c => c.size == P.cellsOf e && decide (0 < c.size) && decide (cb c ≤ P.bytesOf e) | none => false)
    | some (.struct fs) => fieldsOk P (layOk P d) (tyOf P d) 0 fs.toList (P.cellsOf t)
    | _ => false
where
  fieldsOk (P : Program) (ok : TypeId → Bool) (ty : TypeId → Option Ty) : Nat → List Field → Nat → Bool
    | off, [], total => off == total
    | off, f :: r, total => f.offset == off && ok f.type && (match ty f.type with | some c => c.size == P.cellsOf f.type | none => false) && fieldsOk P ok ty (off + P.cellsOf f.type) r total

section
variable {H : Type} {enc : TypeId × Value → H} {P : Program} {w : World} {base : Nat} {spare : Nat → Bool} {held : Bool}

theorem list_of {α : Type} {p : Nat → α → Prop} : ∀ (n : Nat), (∀ i, i < n → ∃ x, p i x) → ∃ xs : List α, xs.length = n ∧ ∀ (k : Nat) y, xs[k]? = some y → p k y
  | 0, _ => ⟨[], rfl, by simp⟩
  | n + 1, h => by
    obtain ⟨xs, h1, h2⟩ := list_of n fun i hi => h i (by omega)
    obtain ⟨y, h3⟩ := h n (by omega)
    refine ⟨xs ++ [y], by simp [h1], fun k z hk => ?_⟩
    by_cases hlt : k < xs.length
    · rw [List.getElem?_append_left hlt] at hk
      exact h2 k z hk
    · rw [List.getElem?_append_right (by omega)] at hk
      have e : k = xs.length := by
        have := (List.getElem?_eq_some_iff.1 hk).1
        simp at this
        omega
      subst e
      simp at hk
      subst hk
      rw [h1]
      exact h3
theorem weightsAll_mem {e : TypeId} {d : DataW H} {n : Nat} (hn : n ∈ d.weights P e) : ∀ {l : List (DataW H)}, d ∈ l → n ∈ DataW.weightsAll P e l
  | [], h => by simp at h
  | x :: r, h => by
    simp only [DataW.weightsAll, List.mem_append]
    rcases List.mem_cons.1 h with rfl | h
    · exact .inl hn
    · exact .inr (weightsAll_mem hn h)
theorem open_ty {B : Nat} : ∀ (d : Nat) (t : TypeId) (c : Ty), layOk P d t = true → tyOf P d t = some c → ∀ (fuel : Nat) (cs : List Value) (x : DataW H × List MemPlace), DataW.trod enc P w base spare held fuel t cs = some x → (∀ m ∈ x.1.weights P t, m ≤ reachBytes) → (B = 9223372036854775807 ∨ shortD B x.1) →
    ∃ e : El c, RepE w (fun b => b < w.heap.size) c e cs ∧ FitsB B c e := by
  intro d
  induction d with
  | zero => intro t c hl; cases hl
  | succ d ih =>
    intro t c hl hc fuel cs x hx hw hS
    cases fuel with
    | zero => cases hx
    | succ fuel =>
      unfold layOk at hl
      unfold tyOf at hc
      cases hu : P.underlying t with
      | none => rw [hu] at hl; cases hl
      | some D =>
        rw [hu] at hl hc
        cases D <;> simp only at hl hc <;> try (cases hl; done)
        case bool =>
          cases hc
          unfold DataW.trod at hx
          rw [hu] at hx
          simp only at hx
          split at hx <;> try (cases hx; done)
          all_goals (rename_i heq; try (cases heq; done))
          rename_i b
          exact ⟨b, rfl, trivial⟩
        case int k =>
          cases hc
          unfold DataW.trod at hx
          rw [hu] at hx
          simp only at hx
          split at hx <;> try (cases hx; done)
          all_goals (rename_i heq; try (cases heq; done))
          cases heq
          rename_i k' n
          split at hx
          · rename_i hk
            obtain ⟨rfl, hwf⟩ := hk
            refine ⟨n, rfl, ?_⟩
            simp [Lit.wf] at hwf
            exact hwf
          · cases hx
        case string =>
          cases hc
          unfold DataW.trod at hx
          rw [hu] at hx
          simp only at hx
          split at hx <;> try (cases hx; done)
          all_goals (rename_i heq; try (cases heq; done))
          rename_i s
          split at hx
          · rename_i hs
            exact ⟨s, rfl, show s.size ≤ 9223372036854775807 by simpa [maxLen] using hs⟩
          · cases hx
        case slice e =>
          cases hce : tyOf P d e with
          | none => rw [hce] at hc; cases hc
          | some ce =>
            rw [hce] at hc hl
            simp only [Option.map_some, Option.some.injEq] at hc
            subst hc
            simp only [Bool.and_eq_true, beq_iff_eq, decide_eq_true_eq] at hl
            obtain ⟨hle, ⟨hsz, hpos⟩, hcb⟩ := hl
            rcases Go.Deep.open_slice hu hx with ⟨rfl, _⟩ | ⟨a, len, cap, m, n, D, Pl, rfl, hb, hlc, hmax, hm, hxe, hel⟩
            · exact ⟨[], ⟨none, 0, rfl, Nat.le_refl _, .inl rfl⟩, ⟨Nat.zero_le _, by simp⟩, by simp⟩
            · have hlm : len ≤ m := by rw [hm]; split <;> omega
              have hx1 : x.1 = .slice ((List.range len).map D) ((List.range (m - len)).map fun j => D (len + j)) := congrArg Prod.fst hxe
              have hwd : ∀ i, i < len → ∀ q ∈ (D i).weights P e, q ≤ reachBytes := fun i hi q hq => hw q (by
                rw [hx1]
                unfold DataW.weights
                rw [hu]
                refine List.mem_cons_of_mem _ (List.mem_append.2 (.inl (weightsAll_mem hq (List.mem_map.2 ⟨i, List.mem_range.2 hi, rfl⟩))))) 
              have hSd : ∀ i, i < len → (B = 9223372036854775807 ∨ shortD B (D i)) := fun i hi => hS.imp id fun h => by
                rw [hx1] at h
                unfold shortD at h
                exact shortAll_mem h.2 (List.mem_map.2 ⟨i, List.mem_range.2 hi, rfl⟩)
              have hSl : len ≤ B := by
                rcases hS with h | h
                · simp [maxLen] at hmax; omega
                · rw [hx1] at h
                  unfold shortD at h
                  have := h.1
                  simpa using this
              have hwl : len * cb ce ≤ reachBytes := by
                have := hw _ (by rw [hx1]; unfold DataW.weights; rw [hu]; exact List.mem_cons_self ..)
                simp only [List.length_map, List.length_range] at this
                exact Nat.le_trans (Nat.mul_le_mul (Nat.le_add_right _ _) hcb) this
              have key : ∀ i, i < len → ∃ e' : El ce, ∃ us : List Value, us.length = ce.size ∧ RepE w (fun b => b < w.heap.size) ce e' us ∧ FitsB B ce e' ∧ ∀ (j : Nat) u, us[j]? = some u → w.cell? (a.add (i * ce.size + j)) = some u := by
                intro i hi
                obtain ⟨cs', h1, h2⟩ := hel i (by omega)
                obtain ⟨e', h3, h4⟩ := ih e ce hle hce n cs' _ h2 (hwd i hi) (hSd i hi)
                obtain ⟨_, h5, h6⟩ := World.cells?_some h1
                refine ⟨e', cs', h3.length, h3, h4, fun j u hj => ?_⟩
                have hjl : j < P.cellsOf e := by rw [← h5]; exact (List.getElem?_eq_some_iff.1 hj).1
                have := h6 j hjl
                rw [hj, hsz] at *
                rw [← this]
                congr 1
                unfold Addr.add
                by_cases hi0 : i * P.cellsOf e = 0
                · simp [hi0]
                · by_cases hj0 : j = 0
                  · simp [hj0, hi0]
                  · have : ¬ (i * P.cellsOf e + j = 0) := by omega
                    simp [hi0, hj0, this, Nat.add_assoc]
              obtain ⟨xs, hxl, hxs⟩ : ∃ xs : List (El ce), xs.length = len ∧ ∀ (k : Nat) y, xs[k]? = some y → ∃ us : List Value, us.length = ce.size ∧ RepE w (fun b => b < w.heap.size) ce y us ∧ FitsB B ce y ∧ ∀ (j : Nat) u, us[j]? = some u → w.cell? (a.add (k * ce.size + j)) = some u := by
                exact list_of len key
              subst hxl
              refine ⟨xs, ⟨some a, cap, rfl, hlc, ?_⟩, ⟨hSl, hwl⟩, fun y hy => ?_⟩
              · by_cases h0 : xs = []
                · exact .inl h0
                · have hlen : 0 < xs.length := List.length_pos_iff.2 h0
                  obtain ⟨us, h1, h2, _, h3⟩ := hxs 0 xs[0] (by simp [hlen])
                  have hu0 : us[0]? = some (us[0]'(by omega)) := List.getElem?_eq_getElem (by omega)
                  have hc0 := h3 0 _ hu0
                  have ha0 : a.add (0 * ce.size + 0) = a := by simp [Addr.add]
                  rw [ha0] at hc0
                  obtain ⟨bb, oo, sp⟩ := a
                  have hsp : sp = none := by
                    unfold World.cell? at hc0
                    split at hc0
                    · split at hc0
                      · cases hc0
                      · rename_i hns; simpa using hns
                    · cases hc0
                  subst hsp
                  refine .inr ⟨bb, oo, rfl, ?_, fun k y hk => ?_⟩
                  · show bb < w.heap.size
                    unfold World.cell? at hc0
                    split at hc0
                    · rename_i hh
                      exact (Array.getElem?_eq_some_iff.1 hh).1
                    · cases hc0
                  · obtain ⟨us, g1, g2, _, g3⟩ := hxs k y hk
                    exact ⟨us, g1, g2, fun j u hj => by have := g3 j u hj; rw [addr_add] at this; rwa [Nat.add_assoc]⟩
              · obtain ⟨k, hk⟩ := List.getElem?_of_mem hy
                obtain ⟨us, _, _, g, _⟩ := hxs k y hk
                exact g
        case struct fs =>
          unfold DataW.trod at hx
          rw [hu] at hx
          have hx' : (if cs.length = P.cellsOf t then (fs.toList.mapM fun f => DataW.trod enc P w base spare held fuel f.type ((cs.drop f.offset).take (P.cellsOf f.type))).map fun xs => (DataW.agg (xs.map (·.1)), xs.flatMap (·.2)) else none) = some x := by
            simpa using hx
          clear hx
          split at hx'
          · rename_i hlen
            cases hm : (fs.toList.mapM fun f => DataW.trod enc P w base spare held fuel f.type ((cs.drop f.offset).take (P.cellsOf f.type))) with
            | none => rw [hm] at hx'; cases hx'
            | some ys =>
              have hx1 : x.1 = .agg (ys.map (·.1)) := by
                rw [hm] at hx'
                simp only [Option.map_some, Option.some.injEq] at hx'
                rw [← hx']
              have hwe : ∀ q ∈ DataW.weightsEach P (fs.toList.map (·.type)) (ys.map (·.1)), q ≤ reachBytes := fun q hq => hw q (by
                rw [hx1]
                unfold DataW.weights
                rw [hu]
                exact hq)
              have hse : B = 9223372036854775807 ∨ shortAll B (ys.map (·.1)) := hS.imp id fun h => by
                rw [hx1] at h
                unfold shortD at h
                exact h
              clear hx' hu
              have main : ∀ (l : List Field) (off : Nat) (c : Ty) (ys : List (DataW H × List MemPlace)), layOk.fieldsOk P (layOk P d) (tyOf P d) off l (P.cellsOf t) = true → tyOf.go (l.map fun f => tyOf P d f.type) = some c → off ≤ cs.length →
                  (l.mapM fun f => DataW.trod enc P w base spare held fuel f.type ((cs.drop f.offset).take (P.cellsOf f.type))) = some ys → (∀ q ∈ DataW.weightsEach P (l.map (·.type)) (ys.map (·.1)), q ≤ reachBytes) → (B = 9223372036854775807 ∨ shortAll B (ys.map (·.1))) → ∃ e : El c, RepE w (fun b => b < w.heap.size) c e (cs.drop off) ∧ FitsB B c e := by
                intro l
                induction l with
                | nil =>
                  intro off c ys hok hc hoff hm hwe hse
                  simp only [List.map_nil, tyOf.go, Option.some.injEq] at hc
                  subst hc
                  simp only [layOk.fieldsOk, beq_iff_eq] at hok
                  refine ⟨(), ?_, trivial⟩
                  show cs.drop off = []
                  rw [hok, ← hlen]
                  simp
                | cons f r ihr =>
                  intro off c ys hok hc hoff hm hwe hse
                  simp only [layOk.fieldsOk, Bool.and_eq_true, beq_iff_eq] at hok
                  obtain ⟨⟨⟨h1, h2⟩, h3⟩, h4⟩ := hok
                  rw [List.mapM_cons] at hm
                  cases hf : DataW.trod enc P w base spare held fuel f.type ((cs.drop f.offset).take (P.cellsOf f.type)) with
                  | none => rw [hf] at hm; cases hm
                  | some y =>
                    rw [hf] at hm
                    cases hr : (r.mapM fun f => DataW.trod enc P w base spare held fuel f.type ((cs.drop f.offset).take (P.cellsOf f.type))) with
                    | none => rw [hr] at hm; cases hm
                    | some zs =>
                      have hys : ys = y :: zs := by
                        rw [hr] at hm
                        simpa using hm.symm
                      rw [hys] at hwe hse
                      have hse1 : B = 9223372036854775807 ∨ shortD B y.1 := hse.imp id fun h => by rw [List.map_cons] at h; unfold shortAll at h; exact h.1
                      have hse2 : B = 9223372036854775807 ∨ shortAll B (zs.map (·.1)) := hse.imp id fun h => by rw [List.map_cons] at h; unfold shortAll at h; exact h.2
                      simp only [List.map_cons, DataW.weightsEach, List.mem_append] at hwe
                      cases hcf : tyOf P d f.type with
                      | none => rw [hcf] at h3; cases h3
                      | some cf =>
                        rw [hcf] at h3
                        simp only [beq_iff_eq] at h3
                        obtain ⟨e1, g1, g2⟩ := ih f.type cf h2 hcf fuel _ y hf (fun q hq => hwe q (.inl hq)) hse1
                        have hl1 := g1.length
                        rw [h1] at g1 hl1
                        have hle : off + P.cellsOf f.type ≤ cs.length := by
                          simp only [List.length_take, List.length_drop] at hl1
                          omega
                        cases r with
                        | nil =>
                          simp only [List.map_cons, List.map_nil, tyOf.go, hcf, Option.some.injEq] at hc
                          subst hc
                          simp only [layOk.fieldsOk, beq_iff_eq] at h4
                          refine ⟨e1, ?_, g2⟩
                          have : (cs.drop off).take (P.cellsOf f.type) = cs.drop off := List.take_of_length_le (by simp; omega)
                          rw [this] at g1
                          exact g1
                        | cons f2 r2 =>
                          cases hgo : tyOf.go ((f2 :: r2).map fun f => tyOf P d f.type) with
                          | none =>
                            simp only [List.map_cons, hcf] at hc hgo
                            simp only [tyOf.go, hgo] at hc
                            cases hc
                          | some cr =>
                            have hc' : c = .pair cf cr := by
                              simp only [List.map_cons, hcf] at hc hgo
                              simp only [tyOf.go, hgo, Option.map_some, Option.some.injEq] at hc
                              exact hc.symm
                            subst hc'
                            obtain ⟨e2, g3, g4⟩ := ihr (off + P.cellsOf f.type) cr zs h4 hgo hle hr (fun q hq => hwe q (.inr hq)) hse2
                            refine ⟨(e1, e2), ⟨_, _, ?_, g1, g3⟩, g2, g4⟩
                            rw [← List.drop_drop]
                            exact (List.take_append_drop _ _).symm
              have := main fs.toList 0 c ys hl hc (Nat.zero_le _) hm hwe hse
              simpa using this
          · cases hx'
end
end Go.Sk

/- A law's row, out of what the evaluator comes to. -/
set_option linter.unusedSimpArgs false
set_option linter.unusedVariables false
set_option linter.unusedSectionVars false
namespace Go.Sk
open Go Go.RowKit

theorem RelC.bool_inv' {w : World} {ok rd : Nat → Prop} {β : Nat → Value} {kd : Nat → KD} {al : Nat → Prop} {b : Bool} {v : Value} (h : RelC w ok rd β kd al (.bool b) v) : v = .bool b := by cases h; rfl
@[reducible] def ElL : List Ty → Type
  | [] => Unit
  | t :: r => El t × ElL r
def FitsLB (B : Nat) : (ts : List Ty) → ElL ts → Prop
  | [], _ => True
  | t :: r, x => FitsB B t x.1 ∧ FitsLB B r x.2
abbrev FitsL (ts : List Ty) (x : ElL ts) : Prop := FitsLB 9223372036854775807 ts x
def argV (g : Option Bool) (c : Ty) (x : El c) : V :=
  match g with
  | some true => .agg (enc c x)
  | some false => (match enc c x with | [v] => .one v | _ => uv)
  | none => uv
def argVs' (P : Program) : List TypeId → (codes : List Ty) → ElL codes → List V
  | t :: ts, c :: cs, x => argV (aggAt P t) c x.1 :: argVs' P ts cs x.2
  | _, _, _ => []

section
variable {H : Type} {enc' : TypeId × Value → H} {P : Program} {W W' : World} {β : Nat → Value}

theorem open_one {B : Nat} {t : TypeId} {c : Ty} {v : Value} {d : DataW H} {ps : List MemPlace} {r : _root_.Go.Reach} {base : Nat} (hl : layOk P 12 t = true) (hc : tyAt P t = some c) (hval : Value.okWide P W r base t v) (hd : DataW.Trod enc' P W 0 (fun _ => true) true t v d ps) (hw : ∀ m ∈ d.weights P t, m ≤ reachBytes) (hS : B = 9223372036854775807 ∨ shortD B d) :
    ∃ x : El c, FitsB B c x ∧ RelV W (fun b => b < W.heap.size) (fun _ => False) β noKd noAl (argV (aggAt P t) c x) v := by
  obtain ⟨fuel, hf⟩ := hd
  obtain ⟨x, h1, h2⟩ := open_ty 12 t c hl hc fuel _ _ hf hw hS
  refine ⟨x, h2, ?_⟩
  have hrel : RelL W (fun b => b < W.heap.size) (fun _ => False) β noKd noAl (enc c x) v.cells.toList := rel_enc h1
  cases hu : P.underlying t with
  | none => unfold layOk at hl; rw [hu] at hl; cases hl
  | some D =>
    have one : aggAt P t = some false → v.cells = #[v] → RelV W (fun b => b < W.heap.size) (fun _ => False) β noKd noAl (argV (aggAt P t) c x) v := by
      intro hg hv
      rw [hv] at hrel
      rw [hg]
      unfold argV
      simp only
      split
      · rename_i u he
        rw [he] at hrel
        exact .one _ _ (hrel.2 0 u v rfl rfl)
      · exact .one _ _ (.undef _)
    unfold Value.okWide at hval
    rw [hu] at hval
    cases D <;> simp only at hval <;> (try (unfold layOk at hl; rw [hu] at hl; cases hl; done))
    case struct fs =>
      obtain ⟨cs, rfl, _⟩ := hval
      have hg : aggAt P t = some true := by unfold aggAt; rw [hu]
      rw [hg]
      have := RelV.ofL hrel
      simpa [argV, Value.cells] using this
    all_goals
      refine one (by unfold aggAt; rw [hu]) ?_
      cases v <;> first | rfl | (unfold Cell.okWide at hval; rw [hu] at hval; unfold Cell.ok at hval; rw [hu] at hval; exact hval.elim) | skip

theorem open_all {B : Nat} : ∀ (ts : List TypeId) (codes : List Ty) (vs : List Value) (ds : List (DataW H)) (ps : List MemPlace) {r : _root_.Go.Reach} {base : Nat}, ts.map (tyAt P) = codes.map some → ts.all (layOk P 12) = true → DataW.TrodAll enc' P W 0 (fun _ => true) true ts vs ds ps →
    (∀ (j : Nat) t v, ts[j]? = some t → vs[j]? = some v → Value.okWide P W r base t v) → (∀ m ∈ DataW.weightsEach P ts ds, m ≤ reachBytes) → (B = 9223372036854775807 ∨ shortAll B ds) → vs.length = ts.length ∧ ds.length = ts.length ∧ ∃ xs : ElL codes, FitsLB B codes xs ∧ (argVs' P ts codes xs).length = vs.length ∧
      ∀ (j : Nat) a u, (argVs' P ts codes xs)[j]? = some a → vs[j]? = some u → RelV W (fun b => b < W.heap.size) (fun _ => False) β noKd noAl a u
  | [], codes, vs, ds, ps, r, base, hc, hl, hA, hval, hsz, hS => by
    cases codes with
    | cons => simp at hc
    | nil =>
      obtain ⟨rfl, rfl, rfl⟩ := Go.ChangeShapes.trodAll_nil hA
      exact ⟨rfl, rfl, (), trivial, rfl, fun j a u h => by simp [argVs'] at h⟩
  | t :: ts, codes, vs, ds, ps, r, base, hc, hl, hA, hval, hsz, hS => by
    cases codes with
    | nil => simp at hc
    | cons c cs =>
      simp only [List.map_cons, List.cons.injEq] at hc
      simp only [List.all_cons, Bool.and_eq_true] at hl
      obtain ⟨v, vs1, d, ds1, p, q, rfl, rfl, rfl, h1, h2⟩ := Go.ChangeShapes.trodAll_cons hA
      obtain ⟨x, g1, g2⟩ := open_one (β := β) hl.1 hc.1 (hval 0 t v rfl rfl) h1 (fun m hm => hsz m (by simp only [DataW.weightsEach, List.mem_append]; exact .inl hm)) (hS.imp id fun h => by unfold shortAll at h; exact h.1)
      obtain ⟨e1, e2, xs, g3, g4, g5⟩ := open_all ts cs vs1 ds1 q hc.2 hl.2 h2 (fun j t v hj hv => hval (j + 1) t v (by simpa using hj) (by simpa using hv)) (fun m hm => hsz m (by simp only [DataW.weightsEach, List.mem_append]; exact .inr hm)) (hS.imp id fun h => by unfold shortAll at h; exact h.2)
      refine ⟨by simp [e1], by simp [e2], (x, xs), ⟨g1, g3⟩, by simp [argVs', g4], fun j a u hj hu => ?_⟩
      cases j with
      | zero =>
        simp [argVs'] at hj hu
        subst hj
        subst hu
        exact g2
      | succ j => exact g5 j a u (by simpa [argVs'] using hj) (by simpa using hu)

theorem back_all (hlaid : laidOutB P = true) (hb : Below W.heap.size W W') : ∀ (ts : List TypeId) (vs : List Value) (ds : List (DataW H)) (ps : List MemPlace), (∀ t ∈ ts, P.readableRec t = true ∧ t < P.types.size) → DataW.TrodAll enc' P W 0 (fun _ => true) true ts vs ds ps →
    DataW.TrodAll enc' P W' 0 (fun b => decide (b < W.heap.size)) true ts vs ds ps
  | [], vs, ds, ps, _, hA => by
    obtain ⟨rfl, rfl, rfl⟩ := Go.ChangeShapes.trodAll_nil hA
    exact hA
  | t :: ts, vs, ds, ps, hr, hA => by
    obtain ⟨v, vs1, d, ds1, p, q, rfl, rfl, rfl, h1, h2⟩ := Go.ChangeShapes.trodAll_cons hA
    have hlt : ∀ x ∈ p, x.block < W.heap.size := by
      obtain ⟨m, hm⟩ := h1
      exact DataW.trod_lt m _ _ _ hm
    exact trodAll_cons_mk (Below.trod hlaid (hr t (by simp)).1 (hr t (by simp)).2 h1 hb hlt) (back_all hlaid hb ts vs1 ds1 q (fun t ht => hr t (by simp [ht])) h2)

theorem trodAll_len : ∀ {ts : List TypeId} {vs : List Value} {ds : List (DataW H)} {ps : List MemPlace}, DataW.TrodAll enc' P W 0 (fun _ => true) true ts vs ds ps → ds.length = ts.length
  | [], vs, ds, ps, h => by
    obtain ⟨rfl, rfl, rfl⟩ := Go.ChangeShapes.trodAll_nil h
    rfl
  | t :: ts, vs, ds, ps, h => by
    obtain ⟨v, vs1, d, ds1, p, q, rfl, rfl, rfl, h1, h2⟩ := Go.ChangeShapes.trodAll_cons h
    simp [trodAll_len h2]
/-- the same, where no slice of the arguments has more than B elements -/
theorem law_contractB {B : Nat} {C : Cfg} (hlaid : laidOutB P = true) (hm : P.follows .mixedOrders = true) (hN : namesOk P = true) (hP : PrimOk P C) {f : FuncId} {fn : Func} {tb : TypeId} (hrt : fn.resultTypes = #[tb]) (htb : P.underlying tb = some .bool)
    (hread : ∀ t ∈ fn.params.toList, P.readableRec t = true ∧ t < P.types.size) {codes : List Ty} (hc : fn.params.toList.map (tyAt P) = codes.map some) (hl : fn.params.toList.all (layOk P 12) = true)
    {spec : ChangeSpec} (hvars : spec.vars = []) (hspec : ∀ ds : List (DataW H), ds.length = fn.params.toList.length → spec.fn H ds = { results := [.lit (.bool true)], args := ds })
    (hlaw : ∀ xs : ElL codes, FitsLB B codes xs → callF P C f (argVs' P fn.params.toList codes xs) [] ⟨[.one (.ty .bool)], 0⟩ = some true)
    {base : Nat} {args : Array Value} {ds gs : List (DataW H)} {before : List MemPlace} (hval : ∀ (j : Nat) t v, fn.params[j]? = some t → args[j]? = some v → Value.okWide P W .any base t v)
    (hW : DataW.Whole enc' P fn.params.toList spec.vars false W args.toList ds gs before)
    (hsz : (DataW.weightsEach P (fn.params.toList ++ spec.plain.varTypes P) (ds ++ gs)).all (· ≤ reachBytes) = true) (hS : B = 9223372036854775807 ∨ shortAll B ds) :
    Calls P f args W fun e W' => ∃ v, e = .returned v ∧ spec.post enc' P fn false true false false W args v W' := by
  have hW' := hW
  obtain ⟨p, q, hA, hV, rfl, hfz, hnd⟩ := hW
  rw [hvars] at hV
  obtain ⟨rfl, rfl⟩ := Go.ChangeShapes.trodVars_none hV
  have hdl : ds.length = fn.params.toList.length := trodAll_len hA
  have hw : ∀ m ∈ DataW.weightsEach P fn.params.toList ds, m ≤ reachBytes := fun m hm => by
    have key : ∀ (ts us : List TypeId) (ds es : List (DataW H)), ds.length = ts.length → ∀ m ∈ DataW.weightsEach P ts ds, m ∈ DataW.weightsEach P (ts ++ us) (ds ++ es) := by
      intro ts
      induction ts with
      | nil => intro us ds es h m hm; cases ds <;> simp [DataW.weightsEach] at hm h
      | cons t ts ih =>
        intro us ds es h m hm
        cases ds with
        | nil => simp at h
        | cons d ds =>
          simp only [DataW.weightsEach, List.cons_append, List.mem_append] at hm ⊢
          rcases hm with hm | hm
          · exact .inl hm
          · exact .inr (ih us ds es (by simpa using h) m hm)
    have := List.all_eq_true.1 hsz m (key _ _ _ _ hdl m hm)
    simpa using this
  obtain ⟨e1, e2, xs, h1, h2, h3⟩ := open_all (β := fun _ => undef) fn.params.toList codes args.toList ds p hc hl hA (fun j t v hj hv => hval j t v (by simpa using hj) (by simpa using hv)) hw hS
  have hsp := (callF_sound hm hN hP (hlaw xs h1)).1.pure W (fun b => b < W.heap.size) (fun _ => False) (fun _ => undef) args (fun _ h => h) (fun _ h => h.elim) (by simpa using h2.symm) h3
  refine hsp.mono fun e W' he => ?_
  obtain ⟨v, ok', rfl, hI⟩ := he
  obtain ⟨β', h4, h5⟩ := hI 0
  have hv : v = .bool true := by
    have : RelV W' ok' (fun _ => False) β' (kds (wrs [] (numbered 0 []))) (fun i => 0 ≤ i ∧ i < 0 + 0) (.one (.bool true)) v := h5
    exact this.one'.bool_inv' 
  subst hv
  have bel : Below W.heap.size W W' := ⟨h4.os, h4.tape, h4.out, h4.grow, fun k hk => h4.keep k hk fun h => h⟩
  refine ⟨_, rfl, _, _, _, [], p, [], hW', ?_, ?_, ?_, bel.frame _, fun h => by cases h⟩
  · rw [List.append_nil, hspec ds e2, hrt]
    exact Go.ChangeShapes.trodAll_mk1 (shut_bool htb _)
  · rw [List.append_nil, hspec ds e2]
    exact back_all hlaid bel fn.params.toList args.toList ds _ hread hA
  · rw [List.append_nil, hspec ds e2, hvars]
    rfl
theorem law_contract {C : Cfg} (hlaid : laidOutB P = true) (hm : P.follows .mixedOrders = true) (hN : namesOk P = true) (hP : PrimOk P C) {f : FuncId} {fn : Func} {tb : TypeId} (hrt : fn.resultTypes = #[tb]) (htb : P.underlying tb = some .bool)
    (hread : ∀ t ∈ fn.params.toList, P.readableRec t = true ∧ t < P.types.size) {codes : List Ty} (hc : fn.params.toList.map (tyAt P) = codes.map some) (hl : fn.params.toList.all (layOk P 12) = true)
    {spec : ChangeSpec} (hvars : spec.vars = []) (hspec : ∀ ds : List (DataW H), ds.length = fn.params.toList.length → spec.fn H ds = { results := [.lit (.bool true)], args := ds })
    (hlaw : ∀ xs : ElL codes, FitsL codes xs → callF P C f (argVs' P fn.params.toList codes xs) [] ⟨[.one (.ty .bool)], 0⟩ = some true)
    {base : Nat} {args : Array Value} {ds gs : List (DataW H)} {before : List MemPlace} (hval : ∀ (j : Nat) t v, fn.params[j]? = some t → args[j]? = some v → Value.okWide P W .any base t v)
    (hW : DataW.Whole enc' P fn.params.toList spec.vars false W args.toList ds gs before)
    (hsz : (DataW.weightsEach P (fn.params.toList ++ spec.plain.varTypes P) (ds ++ gs)).all (· ≤ reachBytes) = true) :
    Calls P f args W fun e W' => ∃ v, e = .returned v ∧ spec.post enc' P fn false true false false W args v W' :=
  law_contractB hlaid hm hN hP hrt htb hread hc hl hvars hspec hlaw hval hW hsz (.inl rfl)
end
end Go.Sk
