/- Results: all of them at once. -/
import Derived.Test.YtgamdchlgikaiaaSkZ
set_option linter.unusedSimpArgs false
set_option linter.unusedVariables false
set_option linter.unusedSectionVars false
namespace Go.Sk
open Go

structure PackedV (w : World) (okx : Nat → Prop) (mem : List Obj) (β : Nat → Value) (d : VD) (x : d.rt.El) (cv : Value) (vs : List Value) (idx : List (Option Nat)) : Prop where
  vlen : vs.length = ownCount d.rt
  ilen : idx.length = ownCount d.rt
  rel : ∀ (n : Nat) (rd : Nat → Prop) (β' : Nat → Value) (kd : Nat → KD) (al : Nat → Prop), (∀ (k : Nat) u, vs[k]? = some u → β' (n + k) = u ∧ al (n + k)) → RelV w okx rd β' kd al (packVD d x n).1 cv
  rows : ∀ (n k : Nat) o u, (packVD d x n).2[k]? = some o → vs[k]? = some u → OwnedV w okx o u ∧ ∀ b, ownB o u = some b → ∃ i, idx[k]? = some (some i) ∧ own mem β i = some b
structure PackedVs (w : World) (okx : Nat → Prop) (mem : List Obj) (β : Nat → Value) (ds : List VD) (x : ElV ds) (cvs : List Value) (vs : List Value) (idx : List (Option Nat)) : Prop where
  vlen : vs.length = ownCounts ds
  ilen : idx.length = ownCounts ds
  rel : ∀ (n : Nat) (rd : Nat → Prop) (β' : Nat → Value) (kd : Nat → KD) (al : Nat → Prop), (∀ (k : Nat) u, vs[k]? = some u → β' (n + k) = u ∧ al (n + k)) →
    cvs.length = (packVs ds x n).1.length ∧ ∀ (j : Nat) v cv, (packVs ds x n).1[j]? = some v → cvs[j]? = some cv → RelV w okx rd β' kd al v cv
  rows : ∀ (n k : Nat) o u, (packVs ds x n).2[k]? = some o → vs[k]? = some u → OwnedV w okx o u ∧ ∀ b, ownB o u = some b → ∃ i, idx[k]? = some (some i) ∧ own mem β i = some b

section
variable {P : Program} {w : World} {ok rd okx rdx Lp : Nat → Prop} {β : Nat → Value} {mem : List Obj} {al : Nat → Prop}

theorem unpackVD_sound (H : Hand w ok rd β mem mem al okx rdx Lp) (d : VD) (v : V) (cv : Value) (g : Got d.rt.El) (hv : RelV w ok rd β (kds mem) al v cv) (hu : unpackVD mem d v = some g) (hL : ∀ i ∈ g.read, Lp i) :
    ∃ vs idx, g.owned = idx.filterMap (fun x => x) ∧ PackedV w okx mem β d g.x cv vs idx := by
  have key : ∀ (r : RT) (cs : List CV) (us : List Value) (g : Got r.El), RelL w ok rd β (kds mem) al cs us → unpack mem r cs = some g → g.rest = [] → (∀ i ∈ g.read, Lp i) → ∃ vs idx, g.owned = idx.filterMap (fun x => x) ∧ Packed w okx mem β r g.x us vs idx := by
    intro r cs us g hl hu hr hL
    obtain ⟨u1, u2, vs, idx, rfl, h2, h3, h4⟩ := unpack_sound H r cs us g hl hu hL
    rw [hr] at h2
    have : u2 = [] := by have := h2.1; simpa using this
    subst this
    rw [List.append_nil]
    exact ⟨vs, idx, h3, h4⟩
  cases d with
  | one r =>
    cases v <;> try (cases hu; done)
    rename_i c
    simp only [unpackVD] at hu
    split at hu
    · rename_i x a b he
      simp at hu
      subst hu
      obtain ⟨vs, idx, h1, h2⟩ := key r [c] [cv] _ (.cons hv.one' .nil) he rfl hL
      have hobj : ∀ n, (packVD (.one r) x n).2 = (packRT r x n).2 := fun n => packVD_obj _ _ _
      refine ⟨vs, idx, h1, h2.vlen, h2.ilen, fun n rd β' kd al hk => ?_, fun n k o u hk hu => h2.rows n k o u (by rw [← hobj]; exact hk) hu⟩
      have := h2.rel n rd β' kd al hk
      show RelV _ _ _ _ _ _ (match packRT r x n with | ([c], o) => (V.one c, o) | (_, o) => (uv, o)).1 cv
      generalize packRT r x n = q at this
      obtain ⟨l, o⟩ := q
      match l, this with
      | [c'], h => exact .one _ _ (h.2 0 c' cv rfl rfl)
      | [], h => exact .one _ _ (.undef _)
      | _ :: _ :: _, h => exact .one _ _ (.undef _)
    · cases hu
  | agg r =>
    cases v <;> try (cases hu; done)
    rename_i cs
    simp only [unpackVD] at hu
    split at hu
    · rename_i x a b he
      simp at hu
      subst hu
      cases hv with
      | agg _ us hl hr =>
        obtain ⟨vs, idx, h1, h2⟩ := key r cs us _ ⟨hl, hr⟩ he rfl hL
        refine ⟨vs, idx, h1, h2.vlen, h2.ilen, fun n rd β' kd al hk => ?_, fun n k o u hk hu => h2.rows n k o u hk hu⟩
        have := h2.rel n rd β' kd al hk
        exact .agg _ us this.1 this.2
    · cases hu

theorem unpackVs_sound (H : Hand w ok rd β mem mem al okx rdx Lp) : ∀ (ds : List VD) (L : List V) (cvs : List Value) (g : Got (ElV ds)), cvs.length = L.length → (∀ (j : Nat) v cv, L[j]? = some v → cvs[j]? = some cv → RelV w ok rd β (kds mem) al v cv) →
    unpackVs mem ds L = some g → (∀ i ∈ g.read, Lp i) → ∃ vs idx, g.owned = idx.filterMap (fun x => x) ∧ PackedVs w okx mem β ds g.x cvs vs idx
  | [], [], cvs, g, hl, hr, hu, hL => by
    simp [unpackVs] at hu
    subst hu
    have : cvs = [] := List.eq_nil_of_length_eq_zero (by simpa using hl)
    subst this
    exact ⟨[], [], rfl, rfl, rfl, fun n rd β' kd al _ => ⟨rfl, fun j v cv hj => by simp [packVs] at hj⟩, fun n k o u hk => by simp [packVs] at hk⟩
  | [], _ :: _, cvs, g, hl, hr, hu, hL => by cases hu
  | [d], [], cvs, g, hl, hr, hu, hL => by cases hu
  | [d], [v], cvs, g, hl, hr, hu, hL => by
    match cvs, hl with
    | [cv], _ =>
      obtain ⟨vs, idx, h1, h2⟩ := unpackVD_sound H d v cv g (hr 0 v cv rfl rfl) hu hL
      have e : ∀ n, packVs [d] g.x n = ([(packVD d g.x n).1], (packVD d g.x n).2) := fun n => rfl
      refine ⟨vs, idx, h1, by rw [h2.vlen]; simp [ownCounts], by rw [h2.ilen]; simp [ownCounts], fun n rd β' kd al hk => ⟨rfl, fun j v' cv' hj hc => ?_⟩, fun n k o u hk hu => h2.rows n k o u hk hu⟩
      cases j with
      | zero =>
        simp [packVs] at hj hc
        subst hj
        subst hc
        exact h2.rel n rd β' kd al hk
      | succ j => simp [packVs] at hj
  | [d], _ :: _ :: _, cvs, g, hl, hr, hu, hL => by cases hu
  | d :: e :: r, [], cvs, g, hl, hr, hu, hL => by cases hu
  | d :: e :: r, v :: L, cvs, g, hl, hr, hu, hL => by
    cases cvs with
    | nil => simp at hl
    | cons cv cvs =>
      simp only [unpackVs] at hu
      split at hu
      · rename_i g1 g2 hg1 hg2
        simp at hu
        subst hu
        obtain ⟨va, ia, a1, a2⟩ := unpackVD_sound H d v cv g1 (hr 0 v cv rfl rfl) hg1 fun i hi => hL i (by simp [hi])
        obtain ⟨vb, ib, b1, b2⟩ := unpackVs_sound H (e :: r) L cvs g2 (by simpa using hl) (fun j v cv hj hc => hr (j + 1) v cv (by simpa using hj) (by simpa using hc)) hg2 fun i hi => hL i (by simp [hi])
        have hcl : ∀ n, (packVD d g1.x n).2.length = va.length := fun n => by rw [packVD_obj, packRT_count, a2.vlen]
        refine ⟨va ++ vb, ia ++ ib, by simp [a1, b1], by simp [a2.vlen, b2.vlen, ownCounts], by simp [a2.ilen, b2.ilen, ownCounts], fun n rd β' kd al hk => ?_, fun n k o u hk hu => ?_⟩
        · have ha := a2.rel n rd β' kd al fun k u hu => hk k u (by rw [List.getElem?_append_left (List.getElem?_eq_some_iff.1 hu).1]; exact hu)
          have hb := b2.rel (n + (packVD d g1.x n).2.length) rd β' kd al fun k u hu => by
            have := hk (va.length + k) u (by rw [List.getElem?_append_right (by omega)]; simpa using hu)
            rw [hcl, Nat.add_assoc]
            exact this
          simp only [packVs]
          refine ⟨by simp [hb.1], fun j v' cv' hj hc => ?_⟩
          cases j with
          | zero =>
            simp at hj hc
            subst hj
            subst hc
            exact ha
          | succ j => exact hb.2 j v' cv' (by simpa using hj) (by simpa using hc)
        · simp only [packVs] at hk
          by_cases hlt : k < va.length
          · rw [List.getElem?_append_left (by rw [hcl]; exact hlt)] at hk
            rw [List.getElem?_append_left hlt] at hu
            obtain ⟨h1, h2⟩ := a2.rows n k o u hk hu
            refine ⟨h1, fun b hb => ?_⟩
            obtain ⟨i, h3, h4⟩ := h2 b hb
            exact ⟨i, by rw [List.getElem?_append_left (by rw [a2.ilen, ← a2.vlen]; exact hlt)]; exact h3, h4⟩
          · rw [List.getElem?_append_right (by rw [hcl]; omega), hcl] at hk
            rw [List.getElem?_append_right (by omega)] at hu
            obtain ⟨h1, h2⟩ := b2.rows _ _ o u hk hu
            refine ⟨h1, fun b hb => ?_⟩
            obtain ⟨i, h3, h4⟩ := h2 b hb
            exact ⟨i, by rw [List.getElem?_append_right (by rw [a2.ilen, ← a2.vlen]; omega), a2.ilen, ← a2.vlen]; exact h3, h4⟩
      · cases hu

theorem nodupB_spec : ∀ {l : List Nat}, nodupB l = true → l.Nodup
  | [], _ => List.nodup_nil
  | a :: r, h => by
    simp only [nodupB, Bool.and_eq_true, Bool.not_eq_true'] at h
    refine List.nodup_cons.2 ⟨fun hm => ?_, nodupB_spec h.2⟩
    rw [hasNat_spec.2 hm] at h
    cases h.1
theorem idx_inj : ∀ {idx : List (Option Nat)}, (idx.filterMap fun x => x).Nodup → ∀ {k k' i : Nat}, idx[k]? = some (some i) → idx[k']? = some (some i) → k = k'
  | [], _, k, k', i, h, _ => by simp at h
  | x :: r, hn, k, k', i, h, h' => by
    have hmem : ∀ {j : Nat}, r[j]? = some (some i) → i ∈ r.filterMap fun x => x := fun hj => List.mem_filterMap.2 ⟨some i, List.mem_of_getElem? hj, rfl⟩
    have hr : (r.filterMap fun x => x).Nodup := by
      cases x with
      | none => simpa using hn
      | some a => simp at hn; exact hn.2
    cases k with
    | zero =>
      cases k' with
      | zero => rfl
      | succ k' =>
        simp at h
        subst h
        have hn' : (i :: r.filterMap fun x => x).Nodup := by simpa using hn
        exact absurd (hmem (by simpa using h')) (List.nodup_cons.1 hn').1
    | succ k =>
      cases k' with
      | zero =>
        simp at h'
        subst h'
        have hn' : (i :: r.filterMap fun x => x).Nodup := by simpa using hn
        exact absurd (hmem (by simpa using h)) (List.nodup_cons.1 hn').1
      | succ k' =>
        have := idx_inj hr (k := k) (k' := k') (i := i) (by simpa using h) (by simpa using h')
        omega
end

theorem valsOf_tup {n : Nat} (h : n ≠ 1) (vs : List V) : valsOf n (.tup vs) = vs := by
  match n, h with
  | 0, _ => rfl
  | 1, h => exact absurd rfl h
  | n + 2, _ => rfl
theorem valsOf_one (n : Nat) (c : CV) : valsOf n (.one c) = [.one c] := by
  match n with
  | 0 => rfl
  | 1 => rfl
  | n + 2 => rfl
theorem valsOf_agg (n : Nat) (c : List CV) : valsOf n (.agg c) = [.agg c] := by
  match n with
  | 0 => rfl
  | 1 => rfl
  | n + 2 => rfl
theorem unpackVs_one {m : List Obj} : ∀ (ds : List VD) (v : V) (g : Got (ElV ds)), unpackVs m ds [v] = some g → ds.length = 1
  | [], v, g, h => by cases h
  | [_], _, _, _ => rfl
  | d :: e :: r, v, g, h => by
    simp only [unpackVs] at h
    split at h
    · rename_i h5
      cases r <;> cases h5
    · cases h

theorem unpackVs_len {m : List Obj} : ∀ (ds : List VD) (L : List V) (g : Got (ElV ds)), unpackVs m ds L = some g → L.length = ds.length
  | [], [], _, _ => rfl
  | [], _ :: _, g, h => by cases h
  | [d], [], g, h => by cases h
  | [d], [_], g, h => rfl
  | [d], _ :: _ :: _, g, h => by cases h
  | d :: e :: r, [], g, h => by cases h
  | d :: e :: r, v :: L, g, h => by
    simp only [unpackVs] at h
    split at h
    · rename_i h2
      simp [unpackVs_len (e :: r) L _ h2]
    · cases h
def SameForm (v v' : V) : Prop := (∃ c c', v = .one c ∧ v' = .one c') ∨ ∃ c c', v = .agg c ∧ v' = .agg c'
theorem unpackVD_form {m : List Obj} {d : VD} {v : V} {g : Got d.rt.El} (h : unpackVD m d v = some g) (n : Nat) : SameForm v (packVD d g.x n).1 := by
  cases d with
  | one r =>
    cases v <;> try (cases h; done)
    left
    rename_i c
    show ∃ c1 c', V.one c = V.one c1 ∧ (match packRT r g.x n with | ([c], o) => (V.one c, o) | (_, o) => (uv, o)).1 = .one c'
    generalize packRT r g.x n = q
    obtain ⟨l, o⟩ := q
    match l with
    | [c'] => exact ⟨c, c', rfl, rfl⟩
    | [] => exact ⟨c, .undef, rfl, rfl⟩
    | _ :: _ :: _ => exact ⟨c, .undef, rfl, rfl⟩
  | agg r =>
    cases v <;> try (cases h; done)
    exact .inr ⟨_, _, rfl, rfl⟩
theorem unpackVs_form {m : List Obj} : ∀ (ds : List VD) (L : List V) (g : Got (ElV ds)), unpackVs m ds L = some g → ∀ (n j : Nat) v v', L[j]? = some v → (packVs ds g.x n).1[j]? = some v' → SameForm v v'
  | [], [], _, _ => fun n j v v' h => by simp at h
  | [], _ :: _, g, h => by cases h
  | [d], [], g, h => by cases h
  | [d], [w], g, h => fun n j v v' h1 h2 => by
    cases j with
    | zero =>
      simp [packVs] at h1 h2
      subst h1
      subst h2
      exact unpackVD_form h n
    | succ j => simp at h1
  | [d], _ :: _ :: _, g, h => by cases h
  | d :: e :: r, [], g, h => by cases h
  | d :: e :: r, w :: L, g, h => by
    simp only [unpackVs] at h
    split at h
    · rename_i g1 g2 hg1 hg2
      simp at h
      subst h
      intro n j v v' h1 h2
      simp only [packVs] at h2
      cases j with
      | zero =>
        simp at h1 h2
        subst h1
        subst h2
        exact unpackVD_form hg1 n
      | succ j => exact unpackVs_form (e :: r) L g2 hg2 _ j v v' (by simpa using h1) (by simpa using h2)
    · cases h

section
variable {P : Program} {X : Fr} {env : List V} {mem : List Obj} {al : Nat → Prop} {tmps : Array Value} {w : World} {β : Nat → Value} {ok : Nat → Prop}

def resF (tmps : Array Value) : ResultVar → Sem Value
  | .tmp t => pure (tmps.getD t undef)
  | .cell a t => do loadVar t (← asAddr (tmps.getD a undef))
theorem results_eq (fn : Func) (tmps : Array Value) : results fn tmps = (do let vs ← fn.results.mapM (resF tmps); pure (if h : vs.size = 1 then vs[0] else .tuple vs)) := rfl
theorem resV_run (h : Inv X env mem al tmps w β ok) : ∀ (l : List ResultVar) (vs : List V), resV P ⟨env, mem⟩ l = some vs → ∃ us : List Value,
    (l.mapM (resF tmps)).run P w = .ok us w ∧ us.length = vs.length ∧
    ∀ (j : Nat) v u, vs[j]? = some v → us[j]? = some u → RelV w ok X.rd β (kds mem) al v u
  | [], vs, hr => by
    simp [resV] at hr
    subst hr
    exact ⟨[], rfl, rfl, fun j v u hj => by simp at hj⟩
  | .tmp t :: r, vs, hr => by
    simp only [resV] at hr
    cases hq : resV P ⟨env, mem⟩ r with
    | none => rw [hq] at hr; cases hr
    | some vs' =>
      rw [hq] at hr
      simp at hr
      subst hr
      obtain ⟨us, h1, h2, h3⟩ := resV_run h r vs' hq
      refine ⟨tmps.getD t undef :: us, by simp only [List.mapM_cons, Sem.run_bind, Sem.run_pure, Result.andThen_ok, h1, resF], by simp [h2], fun j v u hj hu => ?_⟩
      cases j with
      | zero =>
        simp at hj hu
        subst hj
        subst hu
        have := h.ev [] (.tmp t) none
        simpa [St.ev, Act.eval] using this
      | succ j => exact h3 j v u (by simpa using hj) (by simpa using hu)
  | .cell t ty :: r, vs, hr => by
    simp only [resV] at hr
    split at hr
    · rename_i i o n g he hn hg
      split at hr
      · rename_i cs vs' hm hq
        obtain ⟨us, h1, h2, h3⟩ := resV_run h r vs' hq
        cases hlen : (((cs.drop o).take n).length == n) with
        | false => rw [hlen] at hr; cases hr
        | true =>
          rw [hlen] at hr
          simp only [cond] at hr
          split at hr
          · rename_i v hv
            simp at hr
            subst hr
            have hev := h.ev [] (.tmp t) none
            have he' : (⟨env, mem⟩ : St).ev (.tmp t) none = .one (.ptr i o) := he
            have hev := ev_one [] h he'
            have hob := h.obj i
            rw [show (⟨env, mem⟩ : St).mem.getD i .dead = mem.getD i .dead from rfl] at hm
            rw [hm] at hob
            obtain ⟨b, us0, T, hb, hh, hl⟩ := hob
            obtain ⟨b', hb', hp⟩ := hev.ptr_inv (by show (mem.getD i .dead).kd = _; rw [hm]; rfl)
            rw [hb] at hb'
            simp at hb'
            subst hb'
            have hl2 := (hl.drop o).take n
            have hul : ((us0.drop o).take n).length = n := by rw [hl2.1]; simpa using hlen
            have hcell : ∀ (j : Nat) u, ((us0.drop o).take n)[j]? = some u → w.cell? ⟨b, o + j, none⟩ = some u := fun j u hj => by
              rw [List.getElem?_take] at hj
              split at hj
              · rw [List.getElem?_drop] at hj
                simp [World.cell?, hh, hj]
              · cases hj
            have htv : tmps.getD t undef = .pointer (some ⟨b, o, none⟩) := hp
            have fin : ∀ u, (loadVar ty ⟨b, o, none⟩).run P w = .ok u w → RelV w ok X.rd β (kds mem) al v u → ∃ us : List Value,
                ((ResultVar.cell t ty :: r).mapM (resF tmps)).run P w = .ok us w ∧ us.length = (v :: vs').length ∧
                ∀ (j : Nat) v' u, (v :: vs')[j]? = some v' → us[j]? = some u → RelV w ok X.rd β (kds mem) al v' u := by
              intro u hu hvu
              refine ⟨u :: us, ?_, by simp [h2], fun j v' u' hj hu' => ?_⟩
              · have hr1 : (resF tmps (.cell t ty)).run P w = .ok u w := by
                  simp only [resF, htv, asAddr, Sem.run_bind, Sem.run_pure, Result.andThen_ok, hu]
                simp only [List.mapM_cons, Sem.run_bind, Sem.run_pure, Result.andThen_ok, h1, hr1]
              · cases j with
                | zero =>
                  simp at hj hu'
                  subst hj
                  subst hu'
                  exact hvu
                | succ j => exact h3 j v' u' (by simpa using hj) (by simpa using hu')
            rcases rel_mkV (c := ⟨w, ok, X.rd, β, mem, al⟩) hv hl2 with ⟨rfl, hv'⟩ | ⟨rfl, u, hu', hv'⟩
            · exact fin _ (run_loadVar (c := ⟨w, ok, X.rd, β, mem, al⟩) hn hg hul hcell (.inl ⟨rfl, rfl⟩)) hv'
            · exact fin u (run_loadVar (c := ⟨w, ok, X.rd, β, mem, al⟩) hn hg hul hcell (.inr ⟨rfl, hu'⟩)) hv'
          · cases hr
      · cases hr
    · cases hr

theorem results_run (h : Inv X env mem al tmps w β ok) (fn : Func) {vs : List V} (hr : resV P ⟨env, mem⟩ fn.results.toList = some vs) : ∃ v, (results fn tmps).run P w = .ok v w ∧ ∃ cvs, Cvs vs.length cvs v ∧ ∀ (j : Nat) v cv, vs[j]? = some v → cvs[j]? = some cv → RelV w ok X.rd β (kds mem) al v cv := by
  obtain ⟨us, h1, h2, h3⟩ := resV_run h _ vs hr
  have hm : (fn.results.mapM (resF tmps)).run P w = .ok us.toArray w := by
    rw [Array.mapM_eq_mapM_toList]
    simp only [Sem.run_map, h1, Result.andThen_ok]
  match us, vs, h2, h3 with
  | [u], [v], _, h3 =>
    refine ⟨u, ?_, [u], ⟨rfl, fun _ => rfl, fun h => absurd rfl h⟩, h3⟩
    rw [results_eq, Sem.run_bind, hm]
    rfl
  | [], [], _, _ =>
    refine ⟨.tuple #[], ?_, [], ⟨rfl, fun h => by simp at h, fun _ => rfl⟩, fun j v cv hj => by simp at hj⟩
    rw [results_eq, Sem.run_bind, hm]
    rfl
  | u :: u2 :: us, v :: v2 :: vs, hl, h3 =>
    refine ⟨.tuple (u :: u2 :: us).toArray, ?_, u :: u2 :: us, ⟨hl, fun h => by simp at h, fun _ => rfl⟩, h3⟩
    rw [results_eq, Sem.run_bind, hm]
    rfl

/-- what the roots lead to stands for what the handles lead to -/
theorem root_vals (h : Inv X env mem al tmps w β ok) : ∀ (rs : List CV) (hs : List Value) (rvs : List V) (is : List Nat), RelL w ok X.rd β (kds mem) al rs hs → rootVs mem rs = some (rvs, is) →
    ∃ cvs : List Value, cvs.length = rvs.length ∧ hs.length = rvs.length ∧ (∀ (j : Nat) v cv, rvs[j]? = some v → cvs[j]? = some cv → RelV w ok X.rd β (kds mem) al v cv) ∧
      ∀ (k : Nat) v hv cv, rvs[k]? = some v → hs[k]? = some hv → cvs[k]? = some cv → (hv = cv ∧ ((∃ A n c, hv = .slice A n c) ∨ ∃ r, hv = .map r)) ∨
        ∃ j b us T, j ∈ is ∧ own mem β j = some b ∧ hv = .pointer (some ⟨b, 0, none⟩) ∧ w.heap[b]? = some (.cells us.toArray T (0, 0)) ∧ ((∃ c, v = .one c) ∧ us = [cv] ∨ (∃ cs, v = .agg cs) ∧ cv = .agg us.toArray)
  | [], hs, rvs, is, hl, hr => by
    simp [rootVs] at hr
    obtain ⟨rfl, rfl⟩ := hr
    have : hs = [] := List.eq_nil_of_length_eq_zero (by simpa using hl.1)
    subst this
    exact ⟨[], rfl, rfl, fun j v cv hj => by simp at hj, fun k v hv cv hk => by simp at hk⟩
  | c0 :: r, hs, rvs, is, hl, hr => by
    obtain ⟨hv0, hs', rfl, hc0, hls⟩ := hl.head
    have step : ∀ (rvs' : List V) (is' : List Nat) (v0 : V) (cv0 : Value), rootVs mem r = some (rvs', is') → rvs = v0 :: rvs' → (∀ j ∈ is', j ∈ is) → RelV w ok X.rd β (kds mem) al v0 cv0 →
        ((hv0 = cv0 ∧ ((∃ A n c, hv0 = .slice A n c) ∨ ∃ r, hv0 = .map r)) ∨ ∃ j b us T, j ∈ is ∧ own mem β j = some b ∧ hv0 = .pointer (some ⟨b, 0, none⟩) ∧ w.heap[b]? = some (.cells us.toArray T (0, 0)) ∧ ((∃ c, v0 = .one c) ∧ us = [cv0] ∨ (∃ cs, v0 = .agg cs) ∧ cv0 = .agg us.toArray)) →
        ∃ cvs : List Value, cvs.length = rvs.length ∧ (hv0 :: hs').length = rvs.length ∧ (∀ (j : Nat) v cv, rvs[j]? = some v → cvs[j]? = some cv → RelV w ok X.rd β (kds mem) al v cv) ∧
          ∀ (k : Nat) v hv cv, rvs[k]? = some v → (hv0 :: hs')[k]? = some hv → cvs[k]? = some cv → (hv = cv ∧ ((∃ A n c, hv = .slice A n c) ∨ ∃ r, hv = .map r)) ∨
            ∃ j b us T, j ∈ is ∧ own mem β j = some b ∧ hv = .pointer (some ⟨b, 0, none⟩) ∧ w.heap[b]? = some (.cells us.toArray T (0, 0)) ∧ ((∃ c, v = .one c) ∧ us = [cv] ∨ (∃ cs, v = .agg cs) ∧ cv = .agg us.toArray) := by
      intro rvs' is' v0 cv0 h1 h2 h3 h4 h5
      subst h2
      obtain ⟨cvs, e1, e2, e3, e4⟩ := root_vals h r hs' rvs' is' hls h1
      refine ⟨cv0 :: cvs, by simp [e1], by simp [e2], fun j v cv hj hc => ?_, fun k v hv cv hk hh hc => ?_⟩
      · cases j with
        | zero => simp at hj hc; subst hj; subst hc; exact h4
        | succ j => exact e3 j v cv (by simpa using hj) (by simpa using hc)
      · cases k with
        | zero => simp at hk hh hc; subst hk; subst hh; subst hc; exact h5
        | succ k =>
          rcases e4 k v hv cv (by simpa using hk) (by simpa using hh) (by simpa using hc) with h6 | ⟨j, b, us, T, h6, h7⟩
          · exact .inl h6
          · exact .inr ⟨j, b, us, T, h3 j h6, h7⟩
    unfold rootVs at hr
    split at hr
    · simp at hr; rename_i e; cases e
    · rename_i j r' e
      simp at e
      obtain ⟨rfl, rfl⟩ := e
      split at hr
      · rename_i c vs is' hm hq
        simp at hr
        obtain ⟨rfl, rfl⟩ := hr
        obtain ⟨b, hb, rfl⟩ := hc0.ptr_inv (by show (mem.getD j .dead).kd = _; rw [hm]; rfl)
        have hob := h.obj j
        rw [hm] at hob
        obtain ⟨b', us, T, g1, g2, g3⟩ := hob
        rw [hb] at g1
        simp at g1
        subst g1
        obtain ⟨u, q, rfl, hcu, hq'⟩ := g3.head
        have : q = [] := by have := hq'.1; simpa using this
        subst this
        exact step vs is' (.one c) u hq rfl (fun j h => by simp [h]) (.one _ _ hcu) (.inr ⟨j, b, [u], T, by simp, by unfold own; rw [hm, hb]; rfl, rfl, g2, .inl ⟨⟨c, rfl⟩, rfl⟩⟩)
      · rename_i cs vs is' hne hm hq
        simp at hr
        obtain ⟨rfl, rfl⟩ := hr
        obtain ⟨b, hb, rfl⟩ := hc0.ptr_inv (by show (mem.getD j .dead).kd = _; rw [hm]; rfl)
        have hob := h.obj j
        rw [hm] at hob
        obtain ⟨b', us, T, g1, g2, g3⟩ := hob
        rw [hb] at g1
        simp at g1
        subst g1
        exact step vs is' (.agg cs) (.agg us.toArray) hq rfl (fun j h => by simp [h]) (.agg _ us g3.1 g3.2) (.inr ⟨j, b, us, T, by simp, by unfold own; rw [hm, hb]; rfl, rfl, g2, .inr ⟨⟨cs, rfl⟩, rfl⟩⟩)
      · cases hr
    · rename_i j r' e
      simp at e
      obtain ⟨rfl, rfl⟩ := e
      split at hr
      · rename_i t xs vs is' hm hq
        simp at hr
        obtain ⟨rfl, rfl⟩ := hr
        have hv := hc0.osl_inv (by show (mem.getD j .dead).kd ≠ _; rw [hm]; simp [Obj.kd])
        have hob := h.obj j
        rw [hm] at hob
        obtain ⟨A, c, g1, _⟩ := hob
        exact step vs is' (.one (.osl j)) hv0 hq rfl (fun j h => h) (.one _ _ hc0) (.inl ⟨rfl, .inl ⟨A, _, c, by rw [hv, g1]⟩⟩)
      · rename_i kt vt g es b vs is' hm hq
        simp at hr
        obtain ⟨rfl, rfl⟩ := hr
        have hv := hc0.osl_inv (by show (mem.getD j .dead).kd ≠ _; rw [hm]; simp [Obj.kd])
        have hob := h.obj j
        rw [hm] at hob
        obtain ⟨r, arr, clock, g1, _⟩ := hob
        exact step vs is' (.one (.osl j)) hv0 hq rfl (fun j h => h) (.one _ _ hc0) (.inl ⟨rfl, .inr ⟨_, by rw [hv, g1]⟩⟩)
      · cases hr
    · cases hr

theorem fin_post (h : Inv X env mem al tmps w β ok) {ρ : RD} {x : ρ.El} {q : V} {v : Value} (hv : RelV w ok X.rd β (kds mem) al q v) (hx : finR ρ q mem = some x) : PostM X ρ.vals ρ.roots x v w := by
  obtain ⟨ds, nr⟩ := ρ
  simp only [finR] at hx
  split at hx
  · rename_i rvs is hrv
    split at hx
    · rename_i g hg
      cases hc : (nodupB g.owned && !meets g.owned g.read && !meets is g.owned && !meets is g.read && rvs.length == nr) with
      | false => rw [hc] at hx; cases hx
      | true =>
      rw [hc] at hx
      simp only [cond, Option.some.injEq] at hx
      subst hx
      simp only [Bool.and_eq_true, Bool.not_eq_true', beq_iff_eq] at hc
      obtain ⟨⟨⟨⟨hnd, hmt⟩, hmi⟩, hmr⟩, hnr⟩ := hc
      have hlen := unpackVs_len _ _ _ hg
      simp only [List.length_append] at hlen
      obtain ⟨hs, cvsR, hgh, hR1, hR2, hR3, hR4⟩ : ∃ hs cvsR : List Value, (nr = 0 ∨ X.gh = .tuple hs.toArray) ∧ cvsR.length = rvs.length ∧ hs.length = rvs.length ∧ (∀ (j : Nat) v cv, rvs[j]? = some v → cvsR[j]? = some cv → RelV w ok X.rd β (kds mem) al v cv) ∧
          ∀ (k : Nat) v hv cv, rvs[k]? = some v → hs[k]? = some hv → cvsR[k]? = some cv → (hv = cv ∧ ((∃ A n c, hv = .slice A n c) ∨ ∃ r, hv = .map r)) ∨
            ∃ j b us T, j ∈ is ∧ own mem β j = some b ∧ hv = .pointer (some ⟨b, 0, none⟩) ∧ w.heap[b]? = some (.cells us.toArray T (0, 0)) ∧ ((∃ c, v = .one c) ∧ us = [cv] ∨ (∃ cs, v = .agg cs) ∧ cv = .agg us.toArray) := by
        cases nr with
        | zero =>
          obtain ⟨cvs, a1, a2, a3, a4⟩ := root_vals h [] [] rvs is .nil hrv
          exact ⟨[], cvs, .inl rfl, a1, a2, a3, a4⟩
        | succ nr =>
          simp only at hrv
          unfold ghostCs at hrv
          cases hm : mem.getD 0 .dead with
          | ghost cs =>
            rw [hm] at hrv
            have hob := h.obj 0
            rw [hm] at hob
            obtain ⟨us, b1, b2⟩ := hob
            obtain ⟨cvs, a1, a2, a3, a4⟩ := root_vals h cs us rvs is b2 hrv
            exact ⟨us, cvs, .inr (by rw [← h.gh 0 (by show (mem.getD 0 .dead).kd = _; rw [hm]; rfl), b1]), a1, a2, a3, a4⟩
          | _ =>
            rw [hm] at hrv
            simp [rootVs] at hrv
            rw [hrv.1] at hnr
            simp at hnr
      let okx : Nat → Prop := fun b => ok b ∨ ∃ i ∈ g.read, own mem β i = some b
      have H : Hand w ok X.rd β mem mem al okx (fun b => X.rd b ∨ ∃ i, own mem β i = some b) (fun i => i ∈ g.read) := {
        obj := h.obj
        froze := Froze.refl _
        hok := fun _ h => .inl h
        hrd := fun _ h => .inl h
        own := fun i b hb => .inr ⟨i, hb⟩
        rows := fun i hi t xs hx => by
          have hob := h.obj i
          rcases hx with hx | hx
          · rw [hx] at hob
            exact row_rep hob (fun _ h => .inl h) fun b hb => .inr ⟨i, hi, by unfold own; rw [hx]; exact hb⟩
          · rw [hx] at hob
            exact RepE.mono (fun _ _ => rfl) (fun _ h => .inl h) hob }
      obtain ⟨cvs, hcv, hL, hrel⟩ : ∃ cvs : List Value, Cvs (ds.length - nr) cvs v ∧
          cvs.length = (valsOf (ds.length - nr) q).length ∧ ∀ (j : Nat) v cv, (valsOf (ds.length - nr) q)[j]? = some v → cvs[j]? = some cv → RelV w ok X.rd β (kds mem) al v cv := by
        by_cases h1 : ds.length - nr = 1
        · rw [h1]
          have e1 : valsOf 1 q = [q] := by cases q <;> rfl
          refine ⟨[v], ⟨rfl, fun _ => rfl, fun h => absurd rfl h⟩, by rw [e1]; rfl, fun j v' cv hj hc => ?_⟩
          rw [e1] at hj
          cases j with
          | zero => simp at hj hc; subst hj; subst hc; exact hv
          | succ j => simp at hj
        · cases q with
          | tup vs =>
            have e1 := valsOf_tup h1 vs
            rw [e1] at hlen
            cases hv with
            | tup _ us hl hr => exact ⟨us, ⟨by omega, fun h => absurd h h1, fun _ => rfl⟩, by rw [e1]; exact hl, fun j v' cv hj hc => by rw [e1] at hj; exact hr j v' cv hj hc⟩
          | one c =>
            rw [valsOf_one] at hlen
            simp at hlen
            omega
          | agg cs =>
            rw [valsOf_agg] at hlen
            simp at hlen
            omega
      have hcl : cvs.length = ds.length - nr := hcv.1
      obtain ⟨vs, idx, ho, hp⟩ := unpackVs_sound H ds _ (cvs ++ cvsR) g (by simp [hL, hR1]) (fun j v cv hj hc => by
        by_cases hlt : j < cvs.length
        · rw [List.getElem?_append_left (by omega)] at hj
          rw [List.getElem?_append_left hlt] at hc
          exact hrel j v cv hj hc
        · rw [List.getElem?_append_right (by omega)] at hj
          rw [List.getElem?_append_right (by omega), hL] at hc
          exact hR3 _ v cv hj hc) hg fun i hi => hi
      have hidx : ∀ {k k' i : Nat}, idx[k]? = some (some i) → idx[k']? = some (some i) → k = k' := idx_inj (by rw [← ho]; exact nodupB_spec hnd)
      have howned : ∀ {k i : Nat}, idx[k]? = some (some i) → i ∈ g.owned := fun hk => by rw [ho]; exact List.mem_filterMap.2 ⟨_, List.mem_of_getElem? hk, rfl⟩
      refine ⟨okx, cvs, hs, hcv, hgh, by rw [hR2, hnr], fun id => ?_⟩
      have hcount := packVs_count ds g.x id
      let β' : Nat → Value := fun i => vs.getD (i - id) undef
      have hget : ∀ i, (wrs [] (numbered id (packVs ds g.x id).2)).getD i .dead = if id ≤ i ∧ i < id + ownCounts ds then (packVs ds g.x id).2.getD (i - id) .dead else .dead := fun i => by
        rw [numbered_getD, hcount]
        rfl
      have hin : ∀ i, id ≤ i ∧ i < id + ownCounts ds → ∃ o u, (packVs ds g.x id).2[i - id]? = some o ∧ vs[i - id]? = some u ∧ (wrs [] (numbered id (packVs ds g.x id).2)).getD i .dead = o ∧ β' i = u := fun i hi => by
        have h1 : i - id < (packVs ds g.x id).2.length := by omega
        have h2 : i - id < vs.length := by rw [hp.vlen]; omega
        refine ⟨_, _, List.getElem?_eq_getElem h1, List.getElem?_eq_getElem h2, ?_, ?_⟩
        · rw [hget, if_pos hi, List.getD_eq_getElem?_getD, List.getElem?_eq_getElem h1]; rfl
        · show vs.getD (i - id) undef = _
          rw [List.getD_eq_getElem?_getD, List.getElem?_eq_getElem h2]; rfl
      have hout : ∀ i, ¬ (id ≤ i ∧ i < id + ownCounts ds) → (wrs [] (numbered id (packVs ds g.x id).2)).getD i .dead = .dead := fun i hi => by rw [hget, if_neg hi]
      have hownS : ∀ i b, own (wrs [] (numbered id (packVs ds g.x id).2)) β' i = some b → ∃ j, idx[i - id]? = some (some j) ∧ own mem β j = some b ∧ (id ≤ i ∧ i < id + ownCounts ds) := fun i b hb => by
        by_cases hi : id ≤ i ∧ i < id + ownCounts ds
        · obtain ⟨o, u, h1, h2, h3, h4⟩ := hin i hi
          unfold own at hb
          rw [h3, h4] at hb
          obtain ⟨j, h5, h6⟩ := (hp.rows id _ o u h1 h2).2 b hb
          exact ⟨j, h5, h6, hi⟩
        · unfold own at hb
          rw [hout i hi] at hb
          simp [ownB] at hb
      have hR := hp.rel id X.rd β' (kds (wrs [] (numbered id (packVs ds g.x id).2))) (fun i => id ≤ i ∧ i < id + ownCounts ds) fun k u hk => by
        have hkl : k < ownCounts ds := by rw [← hp.vlen]; exact (List.getElem?_eq_some_iff.1 hk).1
        refine ⟨?_, by omega, by omega⟩
        show vs.getD (id + k - id) undef = u
        rw [Nat.add_sub_cancel_left, List.getD_eq_getElem?_getD, hk]; rfl
      refine ⟨β', ?_, fun j v cv hj hc => hR.2 j v cv hj (by rw [List.getElem?_append_left (List.getElem?_eq_some_iff.1 hc).1]; exact hc), fun k hv v hk hvk => ?_⟩
      rotate_left
      · have hkl : k < hs.length := (List.getElem?_eq_some_iff.1 hk).1
        have hcv2 : cvsR[k]? = some (cvsR[k]'(by omega)) := List.getElem?_eq_getElem (by omega)
        have hrv2 : rvs[k]? = some (rvs[k]'(by omega)) := List.getElem?_eq_getElem (by omega)
        have hall : (cvs ++ cvsR)[ds.length - nr + k]? = some (cvsR[k]'(by omega)) := by
          rw [List.getElem?_append_right (by omega), hcl, Nat.add_sub_cancel_left]; exact hcv2
        have hrelv := hR.2 _ v _ hvk hall
        have hL2 : (valsOf (ds.length - nr) q ++ rvs)[ds.length - nr + k]? = some (rvs[k]'(by omega)) := by
          rw [List.getElem?_append_right (by omega), ← hL, hcl, Nat.add_sub_cancel_left]; exact hrv2
        have hform := unpackVs_form ds _ g hg id _ _ v hL2 hvk
        rcases hR4 k _ hv _ hrv2 hk hcv2 with ⟨h1, h2⟩ | ⟨j, b, us, T, h1, h2, h3, h4, h5⟩
        · refine .inl ⟨h2, ?_⟩
          rw [h1]
          exact hrelv
        · refine .inr ⟨b, us, T, h3, ?_, h4, ?_, ?_⟩
          · rcases h5 with ⟨⟨c, h5⟩, h6⟩ | ⟨⟨cs, h5⟩, h6⟩
            · rcases hform with ⟨c1, c', h7, h8⟩ | ⟨c1, c', h7, h8⟩
              · rw [h8] at hrelv ⊢
                rw [h6]
                exact .cons hrelv.one' .nil
              · rw [h5] at h7; cases h7
            · rcases hform with ⟨c1, c', h7, h8⟩ | ⟨c1, c', h7, h8⟩
              · rw [h5] at h7; cases h7
              · rw [h8] at hrelv ⊢
                rw [h6] at hrelv
                generalize hua : Value.agg us.toArray = ua at hrelv
                cases hrelv with
                | agg _ us' hl hr =>
                  simp at hua
                  subst hua
                  exact ⟨hl, hr⟩
          · rintro (h6 | ⟨i, h6, h7⟩)
            · exact h.apart j b h2 h6
            · have := h.inj j i b h2 h7
              subst this
              exact meets_spec hmr j h1 h6
          · intro i h6
            obtain ⟨j', a1, a2, a3⟩ := hownS i b h6
            have := h.inj j j' b h2 a2
            subst this
            exact meets_spec hmi j h1 (howned a1)
      exact {
        size := rfl
        env := fun t v ht => by simp at ht
        obj := fun i => by
          by_cases hi : id ≤ i ∧ i < id + ownCounts ds
          · obtain ⟨o, u, h1, h2, h3, h4⟩ := hin i hi
            rw [h3]
            exact (hp.rows id _ o u h1 h2).1.2 _ _ _ _ _ h4
          · rw [hout i hi]; trivial
        len := fun i hi => by
          by_cases hi2 : id ≤ i ∧ i < id + ownCounts ds
          · exact hi2
          · rw [hout i hi2] at hi
            exact absurd rfl hi
        inj := fun i j b h1 h2 => by
          obtain ⟨k, a1, a2, a3⟩ := hownS i b h1
          obtain ⟨k', b1, b2, b3⟩ := hownS j b h2
          have := h.inj k k' b a2 b2
          subst this
          have := hidx a1 b1
          omega
        apart := fun i b h1 h2 => by
          obtain ⟨k, a1, a2, a3⟩ := hownS i b h1
          rcases h2 with h2 | ⟨j, hj, h2⟩
          · exact h.apart k b a2 h2
          · have := h.inj k j b a2 h2
            subst this
            exact meets_spec hmt k (howned a1) hj
        apartR := fun i b h1 h2 => by
          obtain ⟨k, a1, a2, a3⟩ := hownS i b h1
          exact h.apartR k b a2 h2
        rdLt := h.rdLt
        okLt := fun b hb => by
          rcases hb with hb | ⟨j, hj, hb⟩
          · exact h.okLt b hb
          · exact ownB_lt (h.obj j) hb
        okOld := fun b hb hlt => by
          rcases hb with hb | ⟨j, hj, hb⟩
          · exact h.okOld b hb hlt
          · exact .inr (h.ownOld j b hb hlt)
        ownOld := fun i b h1 hlt => by
          obtain ⟨k, a1, a2, a3⟩ := hownS i b h1
          exact h.ownOld k b a2 hlt
        keep := h.keep
        grow := h.grow
        os := h.os
        out := h.out
        gh := fun i hi => by
          have hi : ((wrs [] (numbered id (packVs ds g.x id).2)).getD i .dead).kd = .ghost := hi
          by_cases hi2 : id ≤ i ∧ i < id + ownCounts ds
          · obtain ⟨o, u, h1, h2, h3, h4⟩ := hin i hi2
            rw [h3] at hi
            exact absurd hi (hp.rows id _ o u h1 h2).1.1.notGhost
          · rw [hout i hi2] at hi; cases hi
        tape := h.tape }
    · cases hx
  · cases hx
end
end Go.Sk
