/- Calls of functions: arguments. -/
import Derived.Test.YtgamdchlgikaiaaSkP
set_option linter.unusedSimpArgs false
set_option linter.unusedVariables false
set_option linter.unusedSectionVars false
namespace Go.Sk
open Go
section
variable {P : Program} {al : Nat → Prop} {w : World} {β : Nat → Value} {ok : Nat → Prop}
variable {rd : Nat → Prop} {m m' : List Obj} {okx rdx Lp : Nat → Prop} {β0 : Nat → Value}

theorem hand_list (H : Hand w ok rd β m m' al okx rdx Lp) {d : Nat} (ih : ∀ (c c' : CV) (v : Value), (pureC d c).run1 m = some c' → Reach m Lp (rowsC d) c → RelC w ok rd β (kds m') al c v → RelC w okx rdx β0 noKd noAl c' v) :
    ∀ (cs cs' : List CV) (us : List Value), (mapR (pureC d) cs).run1 m = some cs' → Reach m Lp (catR (rowsC d)) cs → RelL w ok rd β (kds m') al cs us → RelL w okx rdx β0 noKd noAl cs' us
  | [], cs', us, hr, _, hl => by
    obtain rfl := ret_run1 hr
    exact ⟨hl.1, fun j c u hj => by simp at hj⟩
  | c :: r, cs', us, hr, hL, hl => by
    obtain ⟨c1, h1, hr⟩ := bind_run1 hr
    obtain ⟨r1, h2, hr⟩ := bind_run1 hr
    obtain rfl := ret_run1 hr
    obtain ⟨v, q, rfl, hc, hq⟩ := hl.head
    exact .cons (ih c c1 v h1 hL.cat.1 hc) (hand_list H ih r r1 q h2 hL.cat.2 hq)

theorem hand_elem {t : Ty} {x : El t} {us : List Value} {b q k o : Nat} (hr : RepE w okx t x us) (hb : okx b ∨ rdx b) (hu : ∀ (j : Nat) u, us[j]? = some u → w.cell? ⟨b, q + j, none⟩ = some u) :
    RelC w okx rdx β0 noKd noAl (.rptr ((enc t x).drop o)) (.pointer (some ⟨b, q + o, none⟩)) := by
  have hl : RelL w okx rdx β0 noKd noAl (enc t x) us := rel_enc hr
  have hd := hl.drop o
  exact .rptr _ b (q + o) (us.drop o) hb hd.1 (fun j u hj => by
    rw [List.getElem?_drop] at hj
    rw [Nat.add_assoc]
    exact hu _ u hj) hd.2

theorem hand_pure (H : Hand w ok rd β m m' al okx rdx Lp) : ∀ (d : Nat) (c c' : CV) (v : Value), (pureC d c).run1 m = some c' → Reach m Lp (rowsC d) c → RelC w ok rd β (kds m') al c v → RelC w okx rdx β0 noKd noAl c' v
  | 0, c, c', v, hr, _, _ => by cases hr
  | d + 1, c, c', v, hr, hL, hv => by
    have ih := hand_pure H d
    have data : (dataC c).run1 m = some c' → (rowsC (d + 1) c = .ret (rowsD [c])) → RelC w okx rdx β0 noKd noAl c' v := fun h1 h2 => by
      refine hand_data H h1 (fun i hi => ?_) hv
      rcases hL with hL | ⟨L, h3, h4⟩
      · exact hL i
      · rw [h2] at h3
        obtain rfl := ret_run1 h3
        exact h4 i hi
    cases c
    case undef => obtain rfl := ret_run1 hr; exact .undef v
    case bool b => exact data hr rfl
    case int k n => exact data hr rfl
    case str s => exact data hr rfl
    case nils t => exact data hr rfl
    case slc t xs => exact data hr rfl
    case clp t xs => exact data hr rfl
    case osl i => exact data hr rfl
    case ovw i o n => exact data hr rfl
    case cst u =>
      obtain rfl := ret_run1 hr
      cases hv with
      | cst _ h1 => exact .cst _ h1
    case nilp =>
      obtain rfl := ret_run1 hr
      cases hv
      exact .nilp
    case ptr i o =>
      simp only [pureC, Rd.run1_get] at hr
      cases hm : m.getD i .dead <;> rw [hm] at hr <;> first | (cases hr; done) | skip
      rename_i cs
      obtain ⟨cs', h1, hr⟩ := bind_run1 hr
      obtain rfl := ret_run1 hr
      have hm' : m'.getD i .dead = .cells cs := by
        rcases H.froze i with h | ⟨t, xs, h2, h3⟩
        · rw [h, hm]
        · rw [hm] at h2; cases h2
      have hob := H.obj i
      rw [hm'] at hob
      obtain ⟨b, us, T, hb, hh, hl⟩ := hob
      obtain ⟨b', hb', rfl⟩ : ∃ b, β i = .pointer (some ⟨b, 0, none⟩) ∧ v = .pointer (some ⟨b, o, none⟩) := by
        cases hv with
        | ptr _ _ _ hi hp h1 => exact hp (by show (m'.getD i .dead).kd = _; rw [hm']; rfl)
      rw [hb] at hb'
      simp at hb'
      subst hb'
      have hL2 : Reach m Lp (catR (rowsC d)) cs := by
        rcases hL with hL | ⟨L, h3, h4⟩
        · exact .inl hL
        · simp only [rowsC, Rd.run1_get, hm] at h3
          exact .inr ⟨L, h3, h4⟩
      have hd := (hand_list (β0 := β0) H ih cs cs' us h1 hL2 hl).drop o
      refine .rptr _ b o (us.drop o) (.inr (H.own i b (by unfold own; rw [hm', hb]; rfl))) hd.1 (fun j u hj => ?_) hd.2
      rw [List.getElem?_drop] at hj
      simp [World.cell?, hh, hj]
    case eptr i k o =>
      simp only [pureC, Rd.run1_get] at hr
      have key : ∀ t xs, (m'.getD i .dead = .row t xs ∨ m'.getD i .dead = .frz t xs) → (Rd.opt t xs[k]? fun x => Rd.ret (CV.rptr ((enc t x).drop o))).run1 m = some c' → RelC w okx rdx β0 noKd noAl c' v := by
        intro t xs hx hr
        simp only [Rd.run1_opt] at hr
        cases hk : xs[k]? with
        | none => rw [hk] at hr; cases hr
        | some x =>
          rw [hk] at hr
          obtain rfl := ret_run1 (m := m) hr
          obtain ⟨b, q, n, c, hb, rfl⟩ : ∃ b q n c, β i = .slice (some ⟨b, q, none⟩) n c ∧ v = .pointer (some ⟨b, q + k * t.size + o, none⟩) := by
            cases hv with
            | eptr _ _ _ _ hi hp h1 => exact hp t (by show (m'.getD i .dead).kd = _; rcases hx with hx | hx <;> rw [hx] <;> rfl)
          have hob := H.obj i
          rcases hx with hx | hx
          · rw [hx] at hob
            obtain ⟨A, c2, hb2, hob⟩ := hob
            rw [hb] at hb2
            cases hb2
            rcases hob with ⟨rfl, _⟩ | ⟨b', q', arr, T, e1, hh, h0, hle, hsz, hrows⟩
            · simp at hk
            · simp at e1
              obtain ⟨rfl, rfl⟩ := e1
              obtain ⟨us, h1, h2, h3⟩ := hrows k x hk
              exact hand_elem (k := k) (RepE.mono (fun _ _ => rfl) H.hok h2) (.inr (H.own i b (by unfold own; rw [hx, hb]; simp [ownB]; omega))) fun j u hj => by
                simp [World.cell?, hh, h3 j u hj]
          · rw [hx] at hob
            obtain ⟨A, c2, hb2, hl, hrow⟩ := hob
            simp at hb2
            rw [hb] at hb2
            cases hb2
            rcases hrow with rfl | ⟨b', q', e1, hok, hrow⟩
            · simp at hk
            · simp at e1
              obtain ⟨rfl, rfl⟩ := e1
              obtain ⟨us, h1, h2, h3⟩ := hrow k x hk
              exact hand_elem (k := k) (RepE.mono (fun _ _ => rfl) H.hok h2) (.inl (H.hok _ hok)) fun j u hj => h3 j u hj
      rcases H.froze i with h1 | ⟨t, xs, h1, h2⟩
      · cases hm : m.getD i .dead <;> rw [hm] at hr h1 <;> first | (cases hr; done) | skip
        · exact key _ _ (.inl h1) hr
        · exact key _ _ (.inr h1) hr
      · rw [h1] at hr
        exact key t xs (.inr h2) hr
    case rptr cs =>
      obtain ⟨cs', h1, hr⟩ := bind_run1 (x := mapR (pureC d) cs) hr
      obtain rfl := ret_run1 hr
      cases hv with
      | rptr _ b o us hb hl hu h =>
        have hd := hand_list (β0 := β0) H ih cs cs' us h1 (by
          rcases hL with hL | ⟨L, h3, h4⟩
          · exact .inl hL
          · exact .inr ⟨L, h3, h4⟩) ⟨hl, h⟩
        exact .rptr _ b o us (hb.imp (H.hok b) (H.hrd b)) hd.1 hu hd.2
    case fn f cs =>
      obtain ⟨cs', h1, hr⟩ := bind_run1 (x := mapR (pureC d) cs) hr
      obtain rfl := ret_run1 hr
      cases hv with
      | fn _ _ us hl h =>
        have hd := hand_list (β0 := β0) H ih cs cs' us h1 (by
          rcases hL with hL | ⟨L, h3, h4⟩
          · exact .inl hL
          · exact .inr ⟨L, h3, h4⟩) ⟨hl, h⟩
        exact .fn f cs' us hd.1 hd.2

theorem hand_V (H : Hand w ok rd β m m' al okx rdx Lp) {v v' : V} {cv : Value} (hr : (pureV v).run1 m = some v') (hL : Reach m Lp rowsCs v.cells) (hv : RelV w ok rd β (kds m') al v cv) : RelV w okx rdx β0 noKd noAl v' cv := by
  cases v with
  | tup vs => cases hr
  | one c =>
    obtain ⟨c', h1, hr⟩ := bind_run1 (x := pureC 6 c) hr
    obtain rfl := ret_run1 hr
    cases hv with
    | one _ _ h =>
      exact .one _ _ (hand_pure H 6 c c' cv h1 hL.cat.1 h)
  | agg cs =>
    obtain ⟨cs', h1, hr⟩ := bind_run1 (x := mapR (pureC 6) cs) hr
    obtain rfl := ret_run1 hr
    cases hv with
    | agg _ us hl h =>
      have := hand_list (β0 := β0) H (hand_pure H 6) cs cs' us h1 hL ⟨hl, h⟩
      exact .agg cs' us this.1 this.2

theorem Reach.vs {v : V} {r : List V} (h : Reach m Lp rowsVs (v :: r)) : Reach m Lp rowsCs v.cells ∧ Reach m Lp rowsVs r := by
  rcases h with h | ⟨L, h1, h2⟩
  · exact ⟨.inl h, .inl h⟩
  · obtain ⟨a, ha, h1⟩ := bind_run1 h1
    obtain ⟨b, hb, h1⟩ := bind_run1 h1
    obtain rfl := ret_run1 h1
    exact ⟨.inr ⟨a, ha, fun i hi => h2 i (by simp [hi])⟩, .inr ⟨b, hb, fun i hi => h2 i (by simp [hi])⟩⟩

theorem hand_Vs (H : Hand w ok rd β m m' al okx rdx Lp) : ∀ (vs vs' : List V) (us : List Value), (pureVs vs).run1 m = some vs' → Reach m Lp rowsVs vs → us.length = vs.length →
    (∀ (j : Nat) v u, vs[j]? = some v → us[j]? = some u → RelV w ok rd β (kds m') al v u) → vs'.length = vs.length ∧ ∀ (j : Nat) v u, vs'[j]? = some v → us[j]? = some u → RelV w okx rdx β0 noKd noAl v u
  | [], vs', us, hr, _, hl, h => by
    obtain rfl := ret_run1 hr
    exact ⟨rfl, fun j v u hj => by simp at hj⟩
  | v :: r, vs', us, hr, hL, hl, h => by
    obtain ⟨v1, h1, hr⟩ := bind_run1 hr
    obtain ⟨r1, h2, hr⟩ := bind_run1 hr
    obtain rfl := ret_run1 hr
    cases us with
    | nil => simp at hl
    | cons u us =>
      obtain ⟨e, hs⟩ := hand_Vs H r r1 us h2 hL.vs.2 (by simpa using hl) fun j v u hj hu => h (j + 1) v u (by simpa using hj) (by simpa using hu)
      refine ⟨by simp [e], fun j x y hj hy => ?_⟩
      cases j with
      | zero => simp at hj hy; subst hj; subst hy; exact hand_V H h1 hL.vs.1 (h 0 v u rfl rfl)
      | succ j => exact hs j x y (by simpa using hj) (by simpa using hy)
end
end Go.Sk
