/- Views of owned rows become rows before they are handed back. -/
import Derived.Test.YtgamdchlgikaiaaSkY
set_option linter.unusedSimpArgs false
set_option linter.unusedVariables false
set_option linter.unusedSectionVars false
namespace Go.Sk
open Go

section
variable {X : Fr} {env : List V} {tmps : Array Value} {w : World} {ok : Nat → Prop}

/-- a row with the room that it has -/
theorem row_of_full {rd : Nat → Prop} {β : Nat → Value} {kd : Nat → KD} {al : Nat → Prop} {i : Nat} {t : Ty} {xs : List (El t)} (h : ObjRel w ok rd β kd al i (.full t xs)) : ObjRel w ok rd β kd al i (.row t xs) := by
  obtain ⟨A, e, h⟩ := h
  refine ⟨A, xs.length, e, ?_⟩
  by_cases hx : xs = []
  · exact .inl ⟨hx, by rw [hx]; rfl⟩
  · rcases h with h | ⟨b, o, arr, T, e1, hh, hs, hl⟩
    · exact absurd h hx
    · have : xs.length ≠ 0 := fun hl => hx (List.eq_nil_of_length_eq_zero hl)
      exact .inr ⟨b, o, arr, T, e1, hh, by omega, Nat.le_refl _, hs, hl⟩

theorem retake {mem : List Obj} {al : Nat → Prop} {β : Nat → Value} (h : Inv X env mem al tmps w β ok) {i id o n : Nat} (hid : ¬ al id) {t : Ty} {xs : List (El t)} (hm : mem.getD i .dead = .row t xs ∨ mem.getD i .dead = .full t xs) (hle : o + n ≤ xs.length) {v : Value} (hv : RelC w ok X.rd β (kds mem) al (.ovw i o n) v) :
    ∃ β', Ext w ok X.rd β (kds mem) al w ok β' (kds (wr (wr mem i .dead) id (.row t ((xs.drop o).take n)))) (fun j => al j ∨ j = id) ∧ Inv X env (wr (wr mem i .dead) id (.row t ((xs.drop o).take n))) (fun j => al j ∨ j = id) tmps w β' ok ∧
      RelC w ok X.rd β' (kds (wr (wr mem i .dead) id (.row t ((xs.drop o).take n)))) (fun j => al j ∨ j = id) (.osl id) v := by
  have hkd : kds mem i = .row t := by show (mem.getD i .dead).kd = _; rcases hm with hm | hm <;> rw [hm] <;> rfl
  have hob : ObjRel w ok X.rd β (kds mem) al i (.row t xs) := by
    have := h.obj i
    rcases hm with hm | hm <;> rw [hm] at this
    · exact this
    · exact row_of_full this
  have hai : al i := h.len i (by rw [show (mem.getD i .dead).kd = .row t from hkd]; simp)
  have hne : i ≠ id := fun e => hid (e ▸ hai)
  have hownb : own mem β i = ownB (.row t xs) (β i) := by
    unfold own
    rcases hm with hm | hm <;> rw [hm]
    exact (ownB_full xs xs _).symm
  obtain ⟨A, n', cp, A', hb, hv', hcp, hA⟩ : ∃ A n' c A', β i = .slice A n' c ∧ v = .slice A' n (c - o) ∧ o + n ≤ c ∧ (∀ b q, A = some ⟨b, q, none⟩ → c ≠ o → A' = some ⟨b, q + o * t.size, none⟩) := by
    cases hv with
    | ovw _ _ _ _ hi hp h1 => exact hp t hkd
  obtain ⟨A2, c2, hb2, hob⟩ := hob
  rw [hb] at hb2
  cases hb2
  have hlen : ((xs.drop o).take n).length = n := by simp; omega
  let mem' := wr (wr mem i .dead) id (.row t ((xs.drop o).take n))
  have hm' : ∀ j, mem'.getD j .dead = if j = id then .row t ((xs.drop o).take n) else if j = i then .dead else mem.getD j .dead := fun j => by
    show (wr (wr mem i .dead) id _).getD j .dead = _
    rw [wr_getD, wr_getD]
  have hown : ∀ b, ownB (.row t ((xs.drop o).take n)) v = some b → own mem β i = some b := fun b hb' => by
    rw [hownb, hb]
    rw [hv'] at hb'
    by_cases hc0 : cp = o
    · rw [hc0, Nat.sub_self] at hb'
      cases A' <;> simp [ownB] at hb'
    · rcases hob with ⟨_, rfl⟩ | ⟨bb, q0, arr, T, rfl, hh, h0, hle2, hsz, hrows⟩
      · omega
      · have hAe := hA bb q0 rfl hc0
        subst hAe
        simp only [ownB, if_neg (show ¬ cp - o = 0 by omega)] at hb'
        simp only [ownB, if_neg (show ¬ cp = 0 by omega)]
        exact hb'
  have hsrc : ∀ j b, (j = i ∨ j = id) → own mem' (setβ β id v) j = some b → j = id ∧ own mem β i = some b := fun j b hj hb' => by
    unfold own at hb'
    rw [hm'] at hb'
    by_cases e : j = id
    · rw [if_pos e, e, setβ_same] at hb'
      exact ⟨e, hown b hb'⟩
    · rw [if_neg e, if_pos (hj.resolve_right e)] at hb'
      simp [ownB] at hb'
  have key := h.update (mem' := mem') (al' := fun j => al j ∨ j = id) (w' := w) (β' := setβ β id v) (ok' := ok) (fun j => j = i ∨ j = id) (fun j hj => .inl hj)
    (fun j hj hk => by
      rcases hj with hj | hj
      · exact .inl (hj ▸ hai)
      · exact .inr hj)
    (fun j hj => by rw [hm', if_neg fun e => hj (.inr e), if_neg fun e => hj (.inl e)])
    (fun j hj => setβ_other _ _ fun e => hj (.inr e))
    (fun j hj ha => by
      rcases hj with hj | hj
      · right; show (mem'.getD j .dead).kd = _; rw [hm', hj, if_neg hne, if_pos rfl]; rfl
      · exact absurd (by rw [← hj]; exact ha) hid)
    (fun j hj hg => by
      have hg : (mem'.getD j .dead).kd = .ghost := hg
      rw [hm'] at hg
      by_cases e : j = id
      · rw [if_pos e] at hg; cases hg
      · rw [if_neg e, if_pos (hj.resolve_right e)] at hg; cases hg)
    (fun b hb _ => rfl) (Nat.le_refl _) (fun _ h => h) (fun _ h => .inl h)
    (fun ext j hj => by
      rw [hm']
      by_cases e : j = id
      · rw [if_pos e]
        refine ⟨A', cp - o, by rw [e, setβ_same, hv', hlen], ?_⟩
        by_cases hc0 : cp = o
        · have hn : n = 0 := by omega
          exact .inl ⟨by simp [hn], by omega⟩
        · rcases hob with ⟨_, rfl⟩ | ⟨bb, q0, arr, T, rfl, hh, h0, hle2, hsz, hrows⟩
          · omega
          · have hAe := hA bb q0 rfl hc0
            subst hAe
            refine .inr ⟨bb, q0 + o * t.size, arr, T, rfl, hh, by omega, by rw [hlen]; omega, ?_, lies_of (fun k x hk => ?_) ?_⟩
            · have := Nat.sub_mul cp o t.size
              have := Nat.mul_le_mul_right t.size (show o ≤ cp by omega)
              omega
            · have hk' : xs[o + k]? = some x := by
                rw [List.getElem?_take] at hk
                split at hk
                · rwa [List.getElem?_drop] at hk
                · cases hk
              obtain ⟨us, a1, a2, a3⟩ := hrows _ x hk'
              refine ⟨us, a1, RepE.mono ext.cells ext.ok a2, fun j u hj => ?_⟩
              have := a3 j u hj
              rw [Nat.add_mul] at this
              rw [← this]
              congr 1
              omega
            · obtain ⟨sp, s1, s2⟩ := hrows.tail (m := o + n) (q := 0) (arr' := arr) (by omega) (by omega) fun _ _ => rfl
              refine ⟨sp, by rw [hlen]; omega, fun k x hk => ?_⟩
              obtain ⟨us, a1, a2, a3⟩ := s2 k x hk
              refine ⟨us, a1, RepE.mono ext.cells ext.ok a2, fun j u hj => ?_⟩
              have := a3 j u hj
              rw [← this, hlen]
              congr 1
              have e1 : (o + n + k) * t.size = o * t.size + (n + k) * t.size := by rw [← Nat.add_mul]; congr 1; omega
              omega
      · rw [if_neg e, if_pos (hj.resolve_right e)]; trivial)
    (fun j b hj hb' => .inl ⟨i, .inl rfl, (hsrc j b hj hb').2⟩)
    (fun j k b hj hk h1 h2 => by rw [(hsrc j b hj h1).1, (hsrc k b hk h2).1])
    (fun j b hj hb' => h.apart i b (hsrc j b hj hb').2) rfl rfl rfl
  refine ⟨setβ β id v, key.1, key.2, .osl _ _ (.inr rfl) (fun _ => (setβ_same _ _ _).symm) (by rw [hv']; rfl)⟩

variable {R : Type} {call : CallF} {leaf : List KI → St → Option R} {fin : V → List Obj → Option R} {x : R}
theorem wr_len : ∀ (m : List Obj) (i : Nat) (o : Obj), m.length ≤ (wr m i o).length ∧ i < (wr m i o).length
  | [], 0, o => by simp [wr]
  | [], i + 1, o => by have := (wr_len [] i o).2; simp [wr]; omega
  | a :: r, 0, o => by simp [wr]
  | a :: r, i + 1, o => by have := wr_len r i o; simp [wr]; omega

theorem settleC_sound {c : CV} {m : List Obj} {k : CV → List Obj → Tree} {v : Value} {al : Nat → Prop} {β : Nat → Value} (h : Inv X env m al tmps w β ok) (hal : ∀ j, m.length ≤ j → ¬ al j) (hv : RelC w ok X.rd β (kds m) al c v)
    (hx : (settleC c m k).interp call leaf fin = some x) : ∃ c' m' al' β', Ext w ok X.rd β (kds m) al w ok β' (kds m') al' ∧ Inv X env m' al' tmps w β' ok ∧ (∀ j, m'.length ≤ j → ¬ al' j) ∧ RelC w ok X.rd β' (kds m') al' c' v ∧ (k c' m').interp call leaf fin = some x := by
  have same : (k c m).interp call leaf fin = some x → ∃ c' m' al' β', Ext w ok X.rd β (kds m) al w ok β' (kds m') al' ∧ Inv X env m' al' tmps w β' ok ∧ (∀ j, m'.length ≤ j → ¬ al' j) ∧ RelC w ok X.rd β' (kds m') al' c' v ∧ (k c' m').interp call leaf fin = some x :=
    fun hx => ⟨c, m, al, β, Ext.refl _ _ _ _ _ _, h, hal, hv, hx⟩
  cases c <;> try exact same hx
  rename_i i o n
  have main : ∀ t xs, (m.getD i .dead = .row t xs ∨ m.getD i .dead = .full t xs) → (Tree.br (decide (o + n ≤ xs.length)) (k (.osl m.length) (wr (wr m i .dead) m.length (.row t ((xs.drop o).take n)))) .fail).interp call leaf fin = some x → ∃ c' m' al' β', Ext w ok X.rd β (kds m) al w ok β' (kds m') al' ∧ Inv X env m' al' tmps w β' ok ∧ (∀ j, m'.length ≤ j → ¬ al' j) ∧ RelC w ok X.rd β' (kds m') al' c' v ∧ (k c' m').interp call leaf fin = some x := by
    intro t xs hm hx
    simp only [Tree.interp] at hx
    cases hc : decide (o + n ≤ xs.length) with
    | false => rw [hc] at hx; cases hx
    | true =>
      rw [hc] at hx
      obtain ⟨β', h1, h2, h3⟩ := retake h (hal m.length (Nat.le_refl _)) hm (by simpa using hc) hv
      refine ⟨_, _, _, β', h1, h2, fun j hj => ?_, h3, hx⟩
      have l1 := wr_len m i .dead
      have l2 := wr_len (wr m i .dead) m.length (.row t ((xs.drop o).take n))
      rintro (hx | hx)
      · exact hal j (by omega) hx
      · omega
  unfold settleC at hx
  simp only at hx
  split at hx
  · rename_i t xs hm; exact main t xs (.inl hm) hx
  · rename_i t xs hm; exact main t xs (.inr hm) hx
  · exact same hx
theorem settleCs_sound : ∀ {cs : List CV} {m : List Obj} {k : List CV → List Obj → Tree} {us : List Value} {al : Nat → Prop} {β : Nat → Value}, Inv X env m al tmps w β ok → (∀ j, m.length ≤ j → ¬ al j) → RelL w ok X.rd β (kds m) al cs us →
    (settleCs cs m k).interp call leaf fin = some x → ∃ cs' m' al' β', Ext w ok X.rd β (kds m) al w ok β' (kds m') al' ∧ Inv X env m' al' tmps w β' ok ∧ (∀ j, m'.length ≤ j → ¬ al' j) ∧ RelL w ok X.rd β' (kds m') al' cs' us ∧ (k cs' m').interp call leaf fin = some x
  | [], m, k, us, al, β, h, hal, hl, hx => ⟨[], m, al, β, Ext.refl _ _ _ _ _ _, h, hal, hl, hx⟩
  | c :: r, m, k, us, al, β, h, hal, hl, hx => by
    obtain ⟨v, q, rfl, hc, hq⟩ := hl.head
    obtain ⟨c', m1, al1, β1, e1, h1, a1, r1, hx⟩ := settleC_sound (k := fun c m => settleCs r m fun r m => k (c :: r) m) h hal hc hx
    obtain ⟨r', m2, al2, β2, e2, h2, a2, r2, hx⟩ := settleCs_sound (k := fun r m => k (c' :: r) m) h1 a1 (hq.mono e1) hx
    exact ⟨c' :: r', m2, al2, β2, e1.trans e2, h2, a2, .cons (r1.mono e2) r2, hx⟩
theorem settleV_sound {v : V} {m : List Obj} {k : V → List Obj → Tree} {cv : Value} {al : Nat → Prop} {β : Nat → Value} (h : Inv X env m al tmps w β ok) (hal : ∀ j, m.length ≤ j → ¬ al j) (hv : RelV w ok X.rd β (kds m) al v cv)
    (hx : (settleV v m k).interp call leaf fin = some x) : ∃ v' m' al' β', Ext w ok X.rd β (kds m) al w ok β' (kds m') al' ∧ Inv X env m' al' tmps w β' ok ∧ (∀ j, m'.length ≤ j → ¬ al' j) ∧ RelV w ok X.rd β' (kds m') al' v' cv ∧ (k v' m').interp call leaf fin = some x := by
  cases v with
  | one c =>
    obtain ⟨c', m1, al1, β1, e1, h1, a1, r1, hx⟩ := settleC_sound (k := fun c m => k (.one c) m) h hal hv.one' hx
    exact ⟨_, m1, al1, β1, e1, h1, a1, .one _ _ r1, hx⟩
  | agg cs =>
    cases hv with
    | agg _ us hl hr =>
      obtain ⟨c', m1, al1, β1, e1, h1, a1, r1, hx⟩ := settleCs_sound (k := fun cs m => k (.agg cs) m) h hal ⟨hl, hr⟩ hx
      exact ⟨_, m1, al1, β1, e1, h1, a1, .agg _ us r1.1 r1.2, hx⟩
  | tup vs => exact ⟨_, m, al, β, Ext.refl _ _ _ _ _ _, h, hal, hv, hx⟩
theorem settleVs_sound : ∀ (vs : List V) (m : List Obj) (k : List V → List Obj → Tree) (cvs : List Value) {al : Nat → Prop} {β : Nat → Value}, Inv X env m al tmps w β ok → (∀ j, m.length ≤ j → ¬ al j) → cvs.length = vs.length →
    (∀ (j : Nat) v cv, vs[j]? = some v → cvs[j]? = some cv → RelV w ok X.rd β (kds m) al v cv) →
    (settleVs vs m k).interp call leaf fin = some x → ∃ vs' m' al' β', Ext w ok X.rd β (kds m) al w ok β' (kds m') al' ∧ Inv X env m' al' tmps w β' ok ∧ vs'.length = cvs.length ∧ (∀ (j : Nat) v cv, vs'[j]? = some v → cvs[j]? = some cv → RelV w ok X.rd β' (kds m') al' v cv) ∧ (k vs' m').interp call leaf fin = some x
  | [], m, k, cvs, al, β, h, hal, hl, hr, hx => ⟨[], m, al, β, Ext.refl _ _ _ _ _ _, h, hl.symm, hr, hx⟩
  | v :: r, m, k, cvs, al, β, h, hal, hl, hr, hx => by
    cases cvs with
    | nil => simp at hl
    | cons cv q =>
      obtain ⟨v', m1, al1, β1, e1, h1, a1, r1, hx⟩ := settleV_sound (k := fun v m => settleVs r m fun r m => k (v :: r) m) h hal (hr 0 v cv rfl rfl) hx
      obtain ⟨r', m2, al2, β2, e2, h2, l2, r2, hx⟩ := settleVs_sound r m1 (fun r m => k (v' :: r) m) q h1 a1 (by simpa using hl) (fun j v cv hj hc => (hr (j + 1) v cv (by simpa using hj) (by simpa using hc)).mono e1) hx
      refine ⟨v' :: r', m2, al2, β2, e1.trans e2, h2, by simp [l2], fun j u cu hj hc => ?_, hx⟩
      cases j with
      | zero => simp at hj hc; subst hj; subst hc; exact r1.mono e2
      | succ j => exact r2 j u cu (by simpa using hj) (by simpa using hc)
end
end Go.Sk
