/- Maps, as the evaluator's. -/
import Derived.Test.YtgamdchlgikaiaaSkM
set_option linter.unusedSimpArgs false
set_option linter.unusedVariables false
set_option linter.unusedSectionVars false
namespace Go.Sk
open Go Go.MapKept

/-! ### keys -/
def KeyD (d : TypeDesc) (kt : Ty) : Prop := ∀ (w : World) (ok : Nat → Prop) (x : El kt) (v : Value), RepE w ok kt x [v] → IsKey d v
theorem eqE_iff {kt : Ty} (hk : isKeyT kt = true) {w w' : World} {ok ok' : Nat → Prop} {x y : El kt} {a b : Value} (hx : RepE w ok kt x [a]) (hy : RepE w' ok' kt y [b]) : eqE kt x y = true ↔ a = b := by
  cases kt <;> simp [isKeyT] at hk
  · simp [RepE] at hx hy; subst hx; subst hy; simp [eqE]
  · simp [RepE] at hx hy; subst hx; subst hy; simp [eqE]
  · simp [RepE] at hx hy; subst hx; subst hy
    rw [Value.string.injEq]
    exact bytes_beq x y
theorem rep_key {kt : Ty} (hk : isKeyT kt = true) {w : World} {ok : Nat → Prop} {x y : El kt} {a : Value} (hx : RepE w ok kt x [a]) (hy : RepE w ok kt y [a]) : x = y := by
  cases kt <;> simp [isKeyT] at hk
  · simp [RepE] at hx hy; subst hx; simpa using hy
  · simp [RepE] at hx hy; subst hx; simpa using hy
  · simp [RepE] at hx hy; subst hx; simpa using hy

theorem mapInfo_spec {P : Program} {t : TypeId} {I : MapInfo} (h : mapInfo P t = some I) : P.underlying t = some (.map I.key I.elem) ∧ isKeyT I.kt = true ∧ (∃ d, P.underlying I.key = some d ∧ KeyD d I.kt) ∧
    zeroShape P I.elem I.g = true ∧ ∃ z, zeroCells P I.elem = some z ∧ decAll I.vt z = some I.zero := by
  unfold mapInfo at h
  split at h
  · rename_i k e hu
    split at h
    · rename_i kt vt g z h1 h2 h3 h4 h5
      cases hc : (isKeyT kt && zeroShape P e g) with
      | false => rw [hc] at h; cases h
      | true =>
        rw [hc] at h
        simp only [cond] at h
        simp only [Bool.and_eq_true] at hc
        split at h
        · rename_i x hx
          simp at h
          subst h
          refine ⟨hu, hc.1, ?_, hc.2, z, h5, hx⟩
          have hk : isKeyT kt = true := hc.1
          unfold aggAt at h2
          unfold tyAt at h1
          unfold tyOf at h1
          cases hd : P.underlying k with
          | none => rw [hd] at h2; cases h2
          | some d =>
            rw [hd] at h1 h2
            refine ⟨d, rfl, fun w ok x v hv => ?_⟩
            cases d <;> simp at h1 h2 <;> first
              | (subst h1; rw [show _ = _ from hv] ; trivial)
              | (subst h1; simp [RepE] at hv; subst hv; simp [IsKey])
              | (obtain ⟨a, _, rfl⟩ := h1; simp [isKeyT] at hk)
        · cases h
    · cases h
  · cases h

/-! ### entries -/
section
variable {kt vt : Ty} {w : World} {ok : Nat → Prop}
theorem find_rel (hk : isKeyT kt = true) {d : TypeDesc} (hd : KeyD d kt) {x : El kt} {kv : Value} (hx : RepE w ok kt x [kv]) : ∀ (es : List (El kt × El vt)) (l : List MapEntry) (n : Nat), l.length = es.length →
    (∀ (k : Nat) p e, es[k]? = some p → l[k]? = some e → RepE w ok kt p.1 [e.key]) →
    (Instr.findNow d kv l n = some none ∧ mapFind _ _ es x = none ∧ mapPos _ _ es x = es.length ∧ (∀ v, mapSet _ _ es x v = es ++ [(x, v)]) ∧ mapDel _ _ es x = es) ∨
    ∃ j e p, Instr.findNow d kv l n = some (some (n + j, e.val)) ∧ l[j]? = some e ∧ es[j]? = some p ∧ e.key = kv ∧ mapFind _ _ es x = some p.2 ∧ mapPos _ _ es x = j ∧ (∀ v, mapSet _ _ es x v = es.set j (p.1, v)) ∧ mapDel _ _ es x = es.eraseIdx j
  | [], [], n, _, _ => .inl ⟨rfl, rfl, rfl, fun _ => rfl, rfl⟩
  | [], _ :: _, n, h, _ => by simp at h
  | _ :: _, [], n, h, _ => by simp at h
  | p :: es, e :: l, n, h, hr => by
    have hp := hr 0 p e rfl rfl
    obtain ⟨r, h1, h2⟩ := sameNow_of_keys (hd w ok x kv hx) (hd w ok p.1 e.key hp)
    have h3 := eqE_iff hk hx hp
    cases r with
    | true =>
      have hkv : kv = e.key := h2.1 rfl
      have he : eqE kt x p.1 = true := h3.2 hkv
      refine .inr ⟨0, e, p, ?_, rfl, rfl, hkv.symm, ?_, ?_, fun v => ?_, ?_⟩
      · simp [Instr.findNow, h1]
      · simp [mapFind, he]
      · simp [mapPos, he]
      · simp [mapSet, he]
      · simp [mapDel, he]
    | false =>
      have he : eqE kt x p.1 = false := by
        cases hb : eqE kt x p.1 with
        | false => rfl
        | true => have := h2.2 (h3.1 hb); cases this
      rcases find_rel hk hd hx es l (n + 1) (by simpa using h) (fun k q e hk he => hr (k + 1) q e (by simpa using hk) (by simpa using he)) with ⟨a1, a2, a3, a4, a5⟩ | ⟨j, e', p', a1, a2, a3, a4, a5, a6, a7, a8⟩
      · refine .inl ⟨by simp [Instr.findNow, h1, a1], by simp [mapFind, he, a2], by simp [mapPos, he, a3], fun v => by simp [mapSet, he, a4], by simp [mapDel, he, a5]⟩
      · refine .inr ⟨j + 1, e', p', ?_, by simpa using a2, by simpa using a3, a4, by simp [mapFind, he, a5], by simp [mapPos, he, a6], fun v => by simp [mapSet, he, a7], by simp [mapDel, he, a8]⟩
        simp [Instr.findNow, h1, a1]
        omega
theorem mapPut_set : ∀ (es : List (El kt × El vt)) (n : Nat) (v : El vt) (p : El kt × El vt), es[n]? = some p → mapPut _ _ es n v = es.set n (p.1, v)
  | [], n, v, p, h => by simp at h
  | q :: r, 0, v, p, h => by simp at h; subst h; rfl
  | q :: r, n + 1, v, p, h => by simp [mapPut, mapPut_set r n v p (by simpa using h)]

variable {g tidy : Bool} {es : List (El kt × El vt)} {arr : Array MapEntry} {clock : Nat}
theorem MapIs.push (h : MapIs w ok kt vt g es tidy arr clock) {x : El kt} {kv : Value} (hx : RepE w ok kt x [kv]) {v : El vt} {us : List Value} {val : Value} (hv : RepE w ok vt v us) (hs : ValIs g val us) :
    MapIs w ok kt vt g (es ++ [(x, v)]) tidy (arr.push { key := kv, val, born := clock }) (clock + 1) := by
  obtain ⟨h1, h2, h3⟩ := h
  refine ⟨by simp [h1], fun k p e hp he => ?_, fun ht => ?_⟩
  · rw [Array.getElem?_push] at he
    by_cases hlt : k < es.length
    · rw [List.getElem?_append_left hlt] at hp
      rw [if_neg (by omega)] at he
      exact h2 k p e hp he
    · rw [List.getElem?_append_right (by omega)] at hp
      have hk : k = es.length := by
        rcases Nat.lt_or_ge k (es.length + 1) with h | h
        · omega
        · rw [List.getElem?_eq_none (by simp; omega)] at hp; cases hp
      subst hk
      simp at hp
      subst hp
      rw [if_pos h1.symm] at he
      simp at he
      subst he
      exact ⟨hx, us, hv, hs⟩
  · obtain ⟨h4, h5⟩ := h3 ht
    refine ⟨by simp [h4], fun k e he => ?_⟩
    rw [Array.getElem?_push] at he
    split at he
    · rename_i hk
      simp at he
      subst he
      simp [hk, h4, h1]
    · exact h5 k e he
theorem MapIs.set (h : MapIs w ok kt vt g es tidy arr clock) {j : Nat} {e : MapEntry} {p : El kt × El vt} (he : arr[j]? = some e) (hp : es[j]? = some p) {v : El vt} {us : List Value} {val : Value} (hv : RepE w ok vt v us) (hs : ValIs g val us) (f : MapEntry → MapEntry)
    (hf : f e = { e with val := val }) : MapIs w ok kt vt g (es.set j (p.1, v)) tidy (arr.modify j f) clock := by
  obtain ⟨h1, h2, h3⟩ := h
  refine ⟨by simp [h1], fun k q e' hq he' => ?_, fun ht => ⟨by simp [(h3 ht).1], fun k e' he' => ?_⟩⟩
  · rw [Array.getElem?_modify] at he'
    rw [List.getElem?_set] at hq
    by_cases hjk : j = k
    · subst hjk
      rw [if_pos rfl, he] at he'
      have hjl : j < es.length := (List.getElem?_eq_some_iff.1 hp).1
      rw [if_pos rfl, if_pos hjl] at hq
      simp at he' hq
      subst he'
      subst hq
      rw [hf]
      exact ⟨(h2 j p e hp he).1, us, hv, hs⟩
    · rw [if_neg hjk] at he' hq
      exact h2 k q e' hq he'
  · rw [Array.getElem?_modify] at he'
    by_cases hjk : j = k
    · subst hjk
      rw [if_pos rfl, he] at he'
      simp at he'
      subst he'
      rw [hf]
      exact (h3 ht).2 j e he
    · rw [if_neg hjk] at he'
      exact (h3 ht).2 k e' he'
theorem MapIs.erase (h : MapIs w ok kt vt g es tidy arr clock) {j : Nat} (hj : j < es.length) : MapIs w ok kt vt g (es.eraseIdx j) false (arr.eraseIdxIfInBounds j) clock := by
  obtain ⟨h1, h2, h3⟩ := h
  have e : (arr.eraseIdxIfInBounds j).toList = arr.toList.eraseIdx j := by
    unfold Array.eraseIdxIfInBounds
    rw [dif_pos (by omega)]
    simp
  refine ⟨?_, fun k p e' hp he => ?_, fun h => by cases h⟩
  · rw [← Array.length_toList, e, List.length_eraseIdx, List.length_eraseIdx]
    simp [h1]
  · rw [← Array.getElem?_toList, e, List.getElem?_eraseIdx] at he
    rw [List.getElem?_eraseIdx] at hp
    split at he
    · rename_i hk
      rw [if_pos hk] at hp
      exact h2 k p e' hp (by simpa using he)
    · rename_i hk
      rw [if_neg hk] at hp
      exact h2 _ p e' hp (by simpa using he)
end

theorem decM_spec {kt vt kt' vt' : Ty} {es : List (El kt' × El vt')} {es' : List (El kt × El vt)} (h : decM kt vt kt' vt' es = some es') : ∃ (e : kt' = kt) (g : vt' = vt), es' = e ▸ g ▸ es := by
  unfold decM at h
  split at h
  · rename_i e g _ _
    simp at h
    exact ⟨e, g, h.symm⟩
  · cases h

section
variable {P : Program} {X : Fr} {env : List V} {mem : List Obj} {al : Nat → Prop} {tmps : Array Value} {w : World} {β : Nat → Value} {ok : Nat → Prop}

theorem zero_val {e : TypeId} {g : Bool} (hg : zeroShape P e g = true) {z : List CV} (hz : zeroCells P e = some z) {vt : Ty} {x : El vt} (hx : decAll vt z = some x) (w : World) (ok : Nat → Prop) :
    ∃ zv us, (zeroValue e).run P w = .ok zv w ∧ RepE w ok vt x us ∧ ValIs g zv us := by
  obtain ⟨i, zv, hi, hz', hl⟩ := zero_rel (X := ⟨w, fun _ => False, fun _ => False, fun _ => False, undef⟩) (w := w) (ok := ok) (β := fun _ => undef) (al := fun _ => False) hz
  refine ⟨zv, zv.cells.toList, by simp [zeroValue, typeInfo, hi, hz'], rel_decAll hx (hl fun _ => .none), ?_⟩
  unfold zeroShape at hg
  rw [hi] at hg
  simp only [Option.bind_some, hz'] at hg
  cases zv <;> simp at hg <;> subst hg <;> simp [ValIs, Value.cells]

theorem valIs_rel {g : Bool} {val : Value} {us : List Value} (hs : ValIs g val us) {vt : Ty} {x : El vt} (hv : RepE w ok vt x us) {v : V} {m : List Obj} (hm : (mkV g (enc vt x)).run1 m = some v) {kd : Nat → KD} : RelV w ok X.rd β kd al v val := by
  have hl : RelL w ok X.rd β kd al (enc vt x) us := rel_enc hv
  unfold mkV at hm
  split at hm
  · obtain rfl := ret_run1 hm
    have : val = .agg us.toArray := hs
    rw [this]
    exact .ofL hl
  · rename_i c hc
    obtain rfl := ret_run1 hm
    have : us = [val] := hs
    subst this
    rw [hc] at hl
    exact .one _ _ (hl.2 0 _ _ rfl rfl)
  · cases hm
theorem valIs_of {g : Bool} {v : V} (h1 : v.isOne = !g) (h2 : v.isBad = false) {val : Value} {kd : Nat → KD} (hv : RelV w ok X.rd β kd al v val) : ValIs g val val.cells.toList := by
  cases hv with
  | one c _ h =>
    cases g <;> simp [V.isOne] at h1
    have : val.oneCell' = true := h.one fun e => by subst e; simp [V.isBad] at h2
    show val.cells.toList = [val]
    cases val <;> first | rfl | simp [Value.oneCell'] at this
  | agg cs us hl h =>
    cases g <;> simp [V.isOne] at h1
    show _ = _
    simp [Value.cells]
  | tup => simp [V.isBad] at h2

/-- the map and the key -/
theorem withMap_spec {I : MapInfo} {m k : V} {f : Nat → List (El I.kt × El I.vt) → Bool → El I.kt → Rd Out} {out : Out} (h : Inv X env mem al tmps w β ok) {mv kv : Value} (hm : RelV w ok X.rd β (kds mem) al m mv) (hk : RelV w ok X.rd β (kds mem) al k kv)
    (hr : (withMap I m k f).run1 mem = some out) : ∃ i es tidy key r arr clock, (f i es tidy key).run1 mem = some out ∧ mem.getD i .dead = .map I.kt I.vt I.g es tidy ∧ al i ∧ β i = .map (some r) ∧ mv = .map (some r) ∧ w.heap[r]? = some (.map arr clock) ∧ MapIs w ok I.kt I.vt I.g es tidy arr clock ∧
      RepE w ok I.kt key [kv] := by
  unfold withMap at hr
  split at hr
  · rename_i i
    simp only [Rd.run1_get] at hr
    have hob := h.obj i
    cases hmi : mem.getD i .dead <;> rw [hmi] at hr hob <;> first | (cases hr; done) | skip
    rename_i kt' vt' g' es0 tidy
    have hr2 : (bif g' == I.g then (match decM I.kt I.vt kt' vt' es0, keyOfV I.kt k with
      | some es, some key => f i es tidy key
      | _, _ => .fail) else .fail).run1 mem = some out := hr
    clear hr
    obtain ⟨hg, hr⟩ := bif_fail hr2
    simp only [beq_iff_eq] at hg
    subst hg
    split at hr
    · rename_i es key he hkey
      obtain ⟨e1, e2, e3⟩ := decM_spec he
      subst e1
      subst e2
      simp only at e3
      subst e3
      have hal := h.len i (by rw [hmi]; simp [Obj.kd])
      obtain ⟨r, arr, clock, h1, h2, h3⟩ := hob
      have hmv := hm.one'.osl_inv (by show (mem.getD i .dead).kd ≠ _; rw [hmi]; simp [Obj.kd])
      refine ⟨i, _, tidy, key, r, arr, clock, hr, hmi, hal, h1, by rw [hmv, h1], h2, h3, ?_⟩
      unfold keyOfV at hkey
      split at hkey
      · exact rel_decAll hkey (.cons hk.one' .nil)
      · cases hkey
    · cases hr
  · cases hr

theorem mapis_find {I : MapInfo} {t : TypeId} (hI : mapInfo P t = some I) {es : List (El I.kt × El I.vt)} {tidy : Bool} {arr : Array MapEntry} {clock : Nat} (hm : MapIs w ok I.kt I.vt I.g es tidy arr clock) {key : El I.kt} {kv : Value} (hk : RepE w ok I.kt key [kv]) :
    ∃ d, P.underlying I.key = some d ∧ IsKey d kv ∧ ((Instr.findNow d kv arr.toList 0 = some none ∧ mapFind _ _ es key = none ∧ mapPos _ _ es key = es.length ∧ (∀ v, mapSet _ _ es key v = es ++ [(key, v)]) ∧ mapDel _ _ es key = es) ∨
    ∃ j e p, Instr.findNow d kv arr.toList 0 = some (some (j, e.val)) ∧ arr[j]? = some e ∧ es[j]? = some p ∧ e.key = kv ∧ mapFind _ _ es key = some p.2 ∧ mapPos _ _ es key = j ∧ (∀ v, mapSet _ _ es key v = es.set j (p.1, v)) ∧ mapDel _ _ es key = es.eraseIdx j) := by
  obtain ⟨hu, hkt, ⟨d, hd, hkd⟩, _⟩ := mapInfo_spec hI
  refine ⟨d, hd, hkd w ok key kv hk, ?_⟩
  have := find_rel (vt := I.vt) hkt hkd hk es arr.toList 0 (by simp [hm.1]) (fun k p e h1 h2 => (hm.2.1 k p e h1 (by simpa using h2)).1)
  rcases this with h | ⟨j, e, p, a1, a2, a3⟩
  · exact .inl h
  · exact .inr ⟨j, e, p, by rw [Nat.zero_add] at a1; exact a1, by simpa using a2, a3⟩

variable (ds : List Deferred) (C : Cfg) (h : Inv X env mem al tmps w β ok) {out : Out} {ty : TypeId} {id : Nat} {dst : Option Tmp} {pos : String} {aft : Array Edge} {gd : Option (Nat × Bool)}
include h

theorem Left.value' {s : Sem Value} {new : Nat → Prop} {cv : Value} {w' : World} {β' : Nat → Value} {ok' : Nat → Prop} {out : Out} (hs : s.run P w = .ok cv w') (hI : Inv X env (wrs mem out.ws) al tmps w' β' ok')
    (hR : RelV w' ok' X.rd β' (kds (wrs mem out.ws)) al out.v cv) : Left P X env mem al tmps w new (do pure (.value (← s))) out := by
  have key := hI.update (mem' := wrs mem out.ws) (al' := fun i => al i ∨ new i) (β' := β') (ok' := ok') (fun _ => False) (fun _ h => .inl h) (fun _ h => h.elim) (fun _ _ => rfl) (fun _ _ => rfl) (fun _ h => h.elim) (fun _ h => h.elim) (fun b _ _ => rfl) (Nat.le_refl _)
    (fun _ h => h) (fun _ h => .inl h) (fun _ _ h => h.elim) (fun _ _ h => h.elim) (fun _ _ _ h => h.elim) (fun _ _ h => h.elim) rfl rfl rfl
  exact .value hs key.2 (hR.mono key.1)

theorem left_lookup {t : TypeId} {m k : Operand} {c : Bool} {new : Nat → Prop} (hr : (semOp P C (.lookup t m k c) ty (⟨env, mem⟩ : St).ev id).run1 mem = some out) : Left P X env mem al tmps w new (execOp (⟨tmps, ds⟩ : Act).eval ⟨dst, .lookup t m k c, ty, pos, aft, gd⟩) out := by
  simp only [semOp, lookupC] at hr
  split at hr
  · rename_i I hI
    obtain ⟨i, es, tidy, key, r, arr, clock, hr, hmi, hal, hb, hmv, hh, hM, hkr⟩ := withMap_spec h (h.ev ds m none) (h.ev ds k (mapKeyTy P t)) hr
    obtain ⟨v, hv, hr⟩ := bind_run1 hr
    obtain rfl := ret_run1 hr
    obtain ⟨hu, hkt, _, hzs, z, hz, hzx⟩ := mapInfo_spec hI
    obtain ⟨d, hd, hik, hf⟩ := mapis_find hI hM hkr
    obtain ⟨zv, uz, hzr, hzrep, hzv⟩ := zero_val hzs hz hzx w ok
    have hs : execOp (⟨tmps, ds⟩ : Act).eval ⟨dst, .lookup t m k c, ty, pos, aft, gd⟩ = (do pure (.value (← (Instr.lookup t ((⟨tmps, ds⟩ : Act).eval m) ((⟨tmps, ds⟩ : Act).eval k) c))) : Sem Next) := rfl
    rw [hs]
    rcases hf with ⟨f1, f2, _⟩ | ⟨j, e, p, f1, f2, f3, f4, f5, _⟩
    · rw [f2] at hv ⊢
      have hrel := valIs_rel (X := X) (β := β) (al := al) (kd := kds mem) hzv hzrep hv
      cases c with
      | true =>
        refine .read h (v := .tuple #[zv, .bool false]) ?_ ?_
        · rw [hmv]
          simp [Instr.lookup, run_underlying hu, Go.MapKept.run_getObj_map hh, Go.MapKept.run_checkKey hd hik, Go.MapKept.run_findKey hd f1, hzr]
        · exact .tup [v, .one (.bool false)] [zv, .bool false] rfl fun j v' u hj hu => by
            match j with
            | 0 => simp at hj hu; subst hj; subst hu; exact hrel
            | 1 => simp at hj hu; subst hj; subst hu; exact .one _ _ (.bool _)
            | n + 2 => simp at hj
      | false =>
        refine .read h (v := zv) ?_ hrel
        rw [hmv]
        simp [Instr.lookup, run_underlying hu, Go.MapKept.run_getObj_map hh, Go.MapKept.run_checkKey hd hik, Go.MapKept.run_findKey hd f1, hzr]
    · rw [f5] at hv ⊢
      obtain ⟨_, us, g1, g2⟩ := hM.2.1 j p e f3 f2
      have hrel := valIs_rel (X := X) (β := β) (al := al) (kd := kds mem) g2 g1 hv
      cases c with
      | true =>
        refine .read h (v := .tuple #[e.val, .bool true]) ?_ ?_
        · rw [hmv]
          simp [Instr.lookup, run_underlying hu, Go.MapKept.run_getObj_map hh, Go.MapKept.run_checkKey hd hik, Go.MapKept.run_findKey hd f1]
        · exact .tup [v, .one (.bool true)] [e.val, .bool true] rfl fun j v' u hj hu => by
            match j with
            | 0 => simp at hj hu; subst hj; subst hu; exact hrel
            | 1 => simp at hj hu; subst hj; subst hu; exact .one _ _ (.bool _)
            | n + 2 => simp at hj
      | false =>
        refine .read h (v := e.val) ?_ hrel
        rw [hmv]
        simp [Instr.lookup, run_underlying hu, Go.MapKept.run_getObj_map hh, Go.MapKept.run_checkKey hd hik, Go.MapKept.run_findKey hd f1]
  · cases hr

omit h in
/-- a map's block written -/
theorem _root_.Go.Sk.Inv.mapWrite {mem : List Obj} {ok : Nat → Prop} (h : Inv X env mem al tmps w β ok) {kt vt : Ty} {g tidy tidy' : Bool} {es es' : List (El kt × El vt)} {i r : Nat} (hm : mem.getD i .dead = .map kt vt g es tidy) (hb : β i = .map (some r)) {arr arr' : Array MapEntry} {clock clock' : Nat}
    (hh : w.heap[r]? = some (.map arr clock)) (hM : MapIs w ok kt vt g es' tidy' arr' clock') :
    Ext w ok X.rd β (kds mem) al { w with heap := w.heap.setIfInBounds r (.map arr' clock') } ok β (kds (wr mem i (.map kt vt g es' tidy'))) al ∧ Inv X env (wr mem i (.map kt vt g es' tidy')) al tmps { w with heap := w.heap.setIfInBounds r (.map arr' clock') } β ok := by
  have hown : own mem β i = some r := by unfold own; rw [hm, hb]; rfl
  refine h.modify (i := i) (o' := .map kt vt g es' tidy') (fun j => wr_getD _ _ _ _) (by show _ = (mem.getD i .dead).kd; rw [hm]; rfl) (h.len i (by rw [hm]; simp [Obj.kd])) (fun b hbb => (heap_set hh).2 b fun e => hbb (by rw [hown, e])) (by simp) (fun b hbb => by rw [hb] at hbb; simp [ownB] at hbb; rw [hown, hbb]) (fun ext => ?_) rfl rfl rfl
  exact ⟨r, arr', clock', hb, (heap_set hh).1, hM.mono ext.cells ext.ok⟩

omit h in
theorem elemOf_spec {I : MapInfo} {v : V} {f : El I.vt → List (Nat × Obj) → Rd Out} {val : Value} (h : Inv X env mem al tmps w β ok) (hv : RelV w ok X.rd β (kds mem) al v val) (hr : (elemOf I v f).run1 mem = some out) :
    ∃ x ws ok', (f x ws).run1 mem = some out ∧ Ext w ok X.rd β (kds mem) al w ok' β (kds (wrs mem ws)) al ∧ Inv X env (wrs mem ws) al tmps w β ok' ∧ RepE w ok' I.vt x val.cells.toList ∧ ValIs I.g val val.cells.toList ∧ ∀ j, j ∉ rowsD v.cells → (wrs mem ws).getD j .dead = mem.getD j .dead := by
  unfold elemOf at hr
  cases hb : (v.isBad || !(v.isOne == !I.g)) with
  | true => rw [hb] at hr; cases hr
  | false =>
    rw [hb] at hr
    simp only [cond] at hr
    simp only [Bool.or_eq_false_iff, Bool.not_eq_false', beq_iff_eq] at hb
    obtain ⟨ncs, h1, hr⟩ := bind_run1 hr
    obtain ⟨ws, h2, hr⟩ := bind_run1 hr
    split at hr
    · rename_i x hx
      obtain ⟨ok', ext, hI, hf, hfr, hout⟩ := freeze_sound (rowsD v.cells) mem (Froze.refl _) h h2
      have hl := relV_box hv hb.1
      have hl' := data_rels hI.obj hf h1 hfr (hl.mono ext)
      exact ⟨x, ws, ok', hr, ext, hI, rel_decAll hx hl', valIs_of hb.2 hb.1 hv, hout⟩
    · cases hr

theorem left_mapUpdate' {t : TypeId} {m k v : Operand} {new : Nat → Prop} (hr : (updateC P t ((⟨env, mem⟩ : St).ev m none) ((⟨env, mem⟩ : St).ev k (mapKeyTy P t)) ((⟨env, mem⟩ : St).ev v (mapElemTy P t))).run1 mem = some out) :
    Left P X env mem al tmps w new (do (Instr.mapUpdate t ((⟨tmps, ds⟩ : Act).eval m) ((⟨tmps, ds⟩ : Act).eval k) ((⟨tmps, ds⟩ : Act).eval v)); pure .skip) out := by
  unfold updateC at hr
  split at hr
  · rename_i I hI
    obtain ⟨i, es, tidy, key, r, arr, clock, hr, hmi, hal, hb, hmv, hh, hM, hkr⟩ := withMap_spec h (h.ev ds m none) (h.ev ds k (mapKeyTy P t)) hr
    obtain ⟨x, ws, ok', hr, ext, hI2, hrep, hval, hout⟩ := elemOf_spec h (h.ev ds v (mapElemTy P t)) hr
    cases hn : hasNat (rowsD ((⟨env, mem⟩ : St).ev v (mapElemTy P t)).cells) i with
    | true => rw [hn] at hr; cases hr
    | false =>
    rw [hn] at hr
    obtain rfl := ret_run1 (m := mem) hr
    have hni : i ∉ rowsD ((⟨env, mem⟩ : St).ev v (mapElemTy P t)).cells := fun hi => by
      have : ∀ {l : List Nat} {b : Nat}, b ∈ l → hasNat l b = true := by
        intro l b hb
        induction l with
        | nil => simp at hb
        | cons a r ih =>
          simp only [hasNat, Bool.or_eq_true]
          rcases List.mem_cons.1 hb with rfl | hb
          · exact .inl (Nat.beq_refl _)
          · exact .inr (ih hb)
      rw [this hi] at hn
      cases hn
    obtain ⟨hu, hkt, _, _⟩ := mapInfo_spec hI
    obtain ⟨d, hd, hik, hf⟩ := mapis_find hI hM hkr
    have hM' := hM.mono ext.cells ext.ok
    have hmi' : (wrs mem ws).getD i .dead = .map I.kt I.vt I.g es tidy := by rw [hout i hni, hmi]
    rcases hf with ⟨f1, f2, f3, f4, _⟩ | ⟨j, e, p, f1, f2, f3, f4, f5, f6, f7, _⟩
    · have hw := (hI2.mapWrite hmi' hb hh (hM'.push (RepE.mono ext.cells ext.ok hkr) hrep hval)).2
      refine left_skip (ws := ws ++ [(i, .map I.kt I.vt I.g (mapSet _ _ es key x) tidy)]) h (s := Instr.mapUpdate t ((⟨tmps, ds⟩ : Act).eval m) ((⟨tmps, ds⟩ : Act).eval k) ((⟨tmps, ds⟩ : Act).eval v)) ?_ (by rw [wrs_append, f4]; exact hw)
      rw [hmv]
      simp [Instr.mapUpdate, run_underlying hu, Go.MapKept.run_getObj_map hh, Go.MapKept.run_checkKey hd hik, Go.MapKept.run_findKey hd f1, Go.MapKept.run_setObj_map _ hh]
    · have hw := (hI2.mapWrite hmi' hb hh (hM'.set f2 f3 hrep hval (fun e => { e with key := (⟨tmps, ds⟩ : Act).eval k, val := (⟨tmps, ds⟩ : Act).eval v }) (by rw [← f4]))).2
      refine left_skip (ws := ws ++ [(i, .map I.kt I.vt I.g (mapSet _ _ es key x) tidy)]) h (s := Instr.mapUpdate t ((⟨tmps, ds⟩ : Act).eval m) ((⟨tmps, ds⟩ : Act).eval k) ((⟨tmps, ds⟩ : Act).eval v)) ?_ (by rw [wrs_append, f7]; exact hw)
      rw [hmv]
      simp [Instr.mapUpdate, run_underlying hu, Go.MapKept.run_getObj_map hh, Go.MapKept.run_checkKey hd hik, Go.MapKept.run_findKey hd f1, Go.MapKept.run_setObj_map _ hh, f2, f4, Go.MapKept.run_keyThatStays hik]
  · cases hr
theorem left_mapUpdate {t : TypeId} {m k v : Operand} {new : Nat → Prop} (hr : (semOp P C (.mapUpdate t m k v) ty (⟨env, mem⟩ : St).ev id).run1 mem = some out) : Left P X env mem al tmps w new (execOp (⟨tmps, ds⟩ : Act).eval ⟨dst, .mapUpdate t m k v, ty, pos, aft, gd⟩) out :=
  left_mapUpdate' ds h hr
theorem left_insert {t : TypeId} {m k v : Operand} {new : Nat → Prop} (hr : (semOp P C (.insert t m k v) ty (⟨env, mem⟩ : St).ev id).run1 mem = some out) : Left P X env mem al tmps w new (execOp (⟨tmps, ds⟩ : Act).eval ⟨dst, .insert t m k v, ty, pos, aft, gd⟩) out :=
  left_mapUpdate' ds h hr

theorem left_mapEntry {t : TypeId} {m k : Operand} {new : Nat → Prop} (hr : (semOp P C (.mapEntry t m k) ty (⟨env, mem⟩ : St).ev id).run1 mem = some out) : Left P X env mem al tmps w new (execOp (⟨tmps, ds⟩ : Act).eval ⟨dst, .mapEntry t m k, ty, pos, aft, gd⟩) out := by
  simp only [semOp, entryC] at hr
  split at hr
  · rename_i I hI
    obtain ⟨i, es, tidy, key, r, arr, clock, hr, hmi, hal, hb, hmv, hh, hM, hkr⟩ := withMap_spec h (h.ev ds m none) (h.ev ds k (mapKeyTy P t)) hr
    obtain ⟨ht, hr⟩ := bif_fail hr
    subst ht
    obtain ⟨v, hv, hr⟩ := bind_run1 hr
    obtain rfl := ret_run1 hr
    obtain ⟨hu, hkt, _, hzs, z, hz, hzx⟩ := mapInfo_spec hI
    obtain ⟨d, hd, hik, hf⟩ := mapis_find hI hM hkr
    obtain ⟨zv, uz, hzr, hzrep, hzv⟩ := zero_val hzs hz hzx w ok
    have hs : execOp (⟨tmps, ds⟩ : Act).eval ⟨dst, .mapEntry t m k, ty, pos, aft, gd⟩ = (do pure (.value (← (Instr.mapEntry t ((⟨tmps, ds⟩ : Act).eval m) ((⟨tmps, ds⟩ : Act).eval k)))) : Sem Next) := rfl
    rw [hs]
    have tup : ∀ {w' : World} {ok' : Nat → Prop} {kd' : Nat → KD} {val : Value} {n : Nat}, RelV w' ok' X.rd β kd' al v val → RelV w' ok' X.rd β kd' al (.tup [v, .one (.int .i64 n)]) (.tuple #[val, .int .i64 n]) := fun {w' ok' kd' val n} hrel =>
      .tup [v, .one (.int .i64 n)] [val, .int .i64 n] rfl fun j v' u hj hu => by
        match j with
        | 0 => simp at hj hu; subst hj; subst hu; exact hrel
        | 1 => simp at hj hu; subst hj; subst hu; exact .one _ _ (.int _ _)
        | n + 2 => simp at hj
    rcases hf with ⟨f1, f2, f3, f4, _⟩ | ⟨j, e, p, f1, f2, f3, f4, f5, f6, f7, _⟩
    · rw [f2] at hv ⊢
      obtain ⟨ext, hw⟩ := h.mapWrite hmi hb hh (hM.push hkr hzrep hzv)
      have hclock : clock = mapPos _ _ es key := by rw [f3]; exact (hM.2.2 rfl).1
      refine Left.value' h (s := Instr.mapEntry t ((⟨tmps, ds⟩ : Act).eval m) ((⟨tmps, ds⟩ : Act).eval k)) (cv := .tuple #[zv, .int .i64 (mapPos _ _ es key : Nat)]) ?_ (by simp only [Option.getD_none, f4]; exact hw) (by simp only [Option.getD_none, f4]; exact tup (RelV.mono ext (valIs_rel hzv hzrep hv)))
      rw [hmv]
      simp [Instr.mapEntry, run_underlying hu, Go.MapKept.run_getObj_map hh, Go.MapKept.run_checkKey hd hik, Go.MapKept.run_findKey hd f1, Go.MapKept.run_setObj_map _ hh, hzr, goInt, hclock]
    · rw [f5] at hv ⊢
      obtain ⟨_, us, g1, g2⟩ := hM.2.1 j p e f3 f2
      obtain ⟨ext, hw⟩ := h.mapWrite hmi hb hh (hM.set f2 f3 g1 g2 (fun e => { e with key := (⟨tmps, ds⟩ : Act).eval k }) (by rw [← f4]))
      refine Left.value' h (s := Instr.mapEntry t ((⟨tmps, ds⟩ : Act).eval m) ((⟨tmps, ds⟩ : Act).eval k)) (cv := .tuple #[e.val, .int .i64 (mapPos _ _ es key : Nat)]) ?_ (by simp only [Option.getD_some, f7]; exact hw) (by simp only [Option.getD_some, f7]; exact tup (RelV.mono ext (valIs_rel g2 g1 hv)))
      rw [hmv]
      have hborn := (hM.2.2 rfl).2 j e f2
      simp [Instr.mapEntry, run_underlying hu, Go.MapKept.run_getObj_map hh, Go.MapKept.run_checkKey hd hik, Go.MapKept.run_findKey hd f1, Go.MapKept.run_setObj_map _ hh, f2, f4, Go.MapKept.run_keyThatStays hik, goInt, hborn, f6]
  · cases hr

theorem left_entryStore {t : TypeId} {m s v : Operand} {new : Nat → Prop} (hr : (semOp P C (.entryStore t m s v) ty (⟨env, mem⟩ : St).ev id).run1 mem = some out) : Left P X env mem al tmps w new (execOp (⟨tmps, ds⟩ : Act).eval ⟨dst, .entryStore t m s v, ty, pos, aft, gd⟩) out := by
  simp only [semOp, entryStoreC] at hr
  split at hr
  · rename_i I i n hI em es'
    simp only [Rd.run1_get] at hr
    have hob := h.obj i
    cases hmi : mem.getD i .dead <;> rw [hmi] at hr hob <;> first | (cases hr; done) | skip
    rename_i kt' vt' g' es0 tidy
    obtain ⟨hg, hr2⟩ := bif_fail (m := mem) (a := out) hr
    clear hr
    simp only [Bool.and_eq_true, beq_iff_eq] at hg
    obtain ⟨hg, ht⟩ := hg
    subst hg
    subst ht
    revert hr2
    cases he : decM I.kt I.vt kt' vt' es0 with
    | none => intro hr; cases hr
    | some es =>
      intro hr
      replace hr : (elemOf I ((⟨env, mem⟩ : St).ev v (mapElemTy P t)) fun x ws =>
        bif hasNat (rowsD ((⟨env, mem⟩ : St).ev v (mapElemTy P t)).cells) i then .fail else
        .guard (decide (0 ≤ n) && decide (n < es.length)) (.ret ⟨.tup [], ws ++ [(i, .map I.kt I.vt I.g (mapPut _ _ es n.toNat x) true)]⟩)).run1 mem = some out := hr
      obtain ⟨e1, e2, e3⟩ := decM_spec he
      subst e1
      subst e2
      simp only at e3
      subst e3
      obtain ⟨x, ws, ok', hr, ext, hI2, hrep, hval, hout⟩ := elemOf_spec h (h.ev ds v (mapElemTy P t)) hr
      cases hn : hasNat (rowsD ((⟨env, mem⟩ : St).ev v (mapElemTy P t)).cells) i with
      | true => rw [hn] at hr; cases hr
      | false =>
      rw [hn] at hr
      simp only [cond] at hr
      obtain ⟨hgd, hr⟩ := guard_run1 hr
      obtain rfl := ret_run1 (m := mem) hr
      simp only [Bool.and_eq_true, decide_eq_true_eq] at hgd
      have hni : i ∉ rowsD ((⟨env, mem⟩ : St).ev v (mapElemTy P t)).cells := fun hi => by
        have : ∀ {l : List Nat} {b : Nat}, b ∈ l → hasNat l b = true := by
          intro l b hb
          induction l with
          | nil => simp at hb
          | cons a r ih =>
            simp only [hasNat, Bool.or_eq_true]
            rcases List.mem_cons.1 hb with rfl | hb
            · exact .inl (Nat.beq_refl _)
            · exact .inr (ih hb)
        rw [this hi] at hn
        cases hn
      obtain ⟨r, arr, clock, h1, h2, hM⟩ := hob
      have hmv := (ev_one ds h em).osl_inv (by show (mem.getD i .dead).kd ≠ _; rw [hmi]; simp [Obj.kd])
      have hsv := ev_int ds h es'
      have hM' := hM.mono ext.cells ext.ok
      have hmi' : (wrs mem ws).getD i .dead = .map I.kt I.vt I.g es true := by rw [hout i hni, hmi]
      have hlt : n.toNat < es.length := by omega
      have hp : es[n.toNat]? = some es[n.toNat] := List.getElem?_eq_getElem hlt
      have hlt2 : n.toNat < arr.size := by rw [hM.1]; exact hlt
      have ha : arr[n.toNat]? = some arr[n.toNat] := Array.getElem?_eq_getElem hlt2
      have hw := (hI2.mapWrite hmi' h1 h2 (hM'.set ha hp hrep hval (fun e => { e with val := (⟨tmps, ds⟩ : Act).eval v }) rfl)).2
      rw [← mapPut_set es n.toNat x _ hp] at hw
      refine left_skip (ws := ws ++ [(i, .map I.kt I.vt I.g (mapPut _ _ es n.toNat x) true)]) h (s := Instr.entryStore t ((⟨tmps, ds⟩ : Act).eval m) ((⟨tmps, ds⟩ : Act).eval s) ((⟨tmps, ds⟩ : Act).eval v)) ?_ (by rw [wrs_append]; exact hw)
      have hfind : arr.findIdx? (fun e => (e.born : Int) == n) = some n.toNat := by
        rw [Array.findIdx?_eq_some_iff_getElem]
        refine ⟨hlt2, ?_, fun k hk => ?_⟩
        · have := (hM.2.2 rfl).2 _ _ ha
          simp only [beq_iff_eq, this]
          omega
        · have hk2 : k < arr.size := by omega
          have := (hM.2.2 rfl).2 k _ (Array.getElem?_eq_getElem hk2)
          simp only [beq_iff_eq, this]
          omega
      rw [hmv, h1, hsv]
      simp [Instr.entryStore, Go.MapKept.run_getObj_map h2, asInt, asIntOf, hfind, Go.MapKept.run_setObj_map _ h2]
  · cases hr

theorem delete_sound {t tk : TypeId} {m k : V} {mv kv : Value} (hm : RelV w ok X.rd β (kds mem) al m mv) (hk : RelV w ok X.rd β (kds mem) al k kv) (hr : (deleteC P t m k).run1 mem = some out) :
    ∃ w', (Builtin.delete_ #[t, tk] ty #[mv, kv]).run P w = .ok (.tuple #[]) w' ∧ Inv X env (wrs mem out.ws) al tmps w' β ok ∧ out.v = .tup [] := by
  unfold deleteC at hr
  split at hr
  · rename_i I hI
    obtain ⟨i, es, tidy, key, r, arr, clock, hr, hmi, hal, hb, hmv, hh, hM, hkr⟩ := withMap_spec h hm hk hr
    obtain rfl := ret_run1 hr
    obtain ⟨hu, hkt, _, _⟩ := mapInfo_spec hI
    obtain ⟨d, hd, hik, hf⟩ := mapis_find hI hM hkr
    rcases hf with ⟨f1, f2, f3, f4, f5⟩ | ⟨j, e, p, f1, f2, f3, f4, f5, f6, f7, f8⟩
    · have hw := (h.mapWrite hmi hb hh (tidy' := false) (es' := mapDel _ _ es key) (arr' := arr) (clock' := clock) (by rw [f5]; exact ⟨hM.1, hM.2.1, fun h => by cases h⟩)).2
      refine ⟨_, ?_, hw, rfl⟩
      rw [hmv]
      simp [Builtin.delete_, run_underlying hu, Go.MapKept.run_getObj_map hh, Go.MapKept.run_checkKey hd hik, Go.MapKept.run_findKey hd f1, Go.MapKept.run_setObj_map _ hh]
    · have hw := (h.mapWrite hmi hb hh (tidy' := false) (es' := mapDel _ _ es key) (by rw [f8]; exact hM.erase (List.getElem?_eq_some_iff.1 f3).1)).2
      refine ⟨_, ?_, hw, rfl⟩
      rw [hmv]
      simp [Builtin.delete_, run_underlying hu, Go.MapKept.run_getObj_map hh, Go.MapKept.run_checkKey hd hik, Go.MapKept.run_findKey hd f1, Go.MapKept.run_setObj_map _ hh]
  · cases hr

theorem left_makeMap (hid : ¬ al id) {t : TypeId} {r : Option Operand} (hr : (semOp P C (.makeMap t r) ty (⟨env, mem⟩ : St).ev id).run1 mem = some out) : Left P X env mem al tmps w (fun i => i = id) (execOp (⟨tmps, ds⟩ : Act).eval ⟨dst, .makeMap t r, ty, pos, aft, gd⟩) out := by
  simp only [semOp, makeMapC] at hr
  split at hr
  · rename_i I hI
    obtain ⟨hu, _⟩ := mapInfo_spec hI
    have main : (Instr.makeMap t (r.map (⟨tmps, ds⟩ : Act).eval)).run P w = .ok (.map (some w.heap.size)) (w.alloc (.map #[] 0)) → out = ⟨.one (.osl id), [(id, .map I.kt I.vt I.g [] true)]⟩ → Left P X env mem al tmps w (fun i => i = id) (execOp (⟨tmps, ds⟩ : Act).eval ⟨dst, .makeMap t r, ty, pos, aft, gd⟩) out := by
      intro hrun ho
      subst ho
      have hd : mem.getD id .dead = .dead := by
        cases hm : mem.getD id .dead with
        | dead => rfl
        | _ => exact absurd (h.len id (by rw [hm]; simp [Obj.kd])) hid
      have hkd : kds (wr mem id (.map I.kt I.vt I.g [] true)) id = .map := by show ((wr mem id (.map I.kt I.vt I.g [] true)).getD id .dead).kd = _; rw [wr_getD]; simp [Obj.kd]
      have key := h.update (mem' := wr mem id (.map I.kt I.vt I.g [] true)) (al' := fun i => al i ∨ i = id) (w' := w.alloc (.map #[] 0)) (β' := setβ β id (.map (some w.heap.size))) (ok' := ok) (fun i => i = id) (fun i hi => .inl hi) (fun i hi _ => .inr hi)
        (fun i hi => by rw [wr_getD, if_neg hi]) (fun i hi => setβ_other _ _ hi) (fun i hi ha => absurd (by rw [← hi]; exact ha) hid) (fun i hi hg => by subst hi; rw [hkd] at hg; cases hg)
        (fun b hb _ => heap_alloc_old _ _ hb) (by rw [size_alloc]; omega) (fun _ h => h) (fun _ h => .inl h)
        (fun ext i hi => by
          subst hi
          rw [wr_getD, if_pos rfl]
          exact ⟨w.heap.size, #[], 0, setβ_same _ _ _, heap_alloc_at _ _, rfl, fun k p e hp => by simp at hp, fun _ => ⟨rfl, fun k e he => by simp at he⟩⟩)
        (fun i b hi hb => by
          subst hi
          simp only [own, wr_getD, if_true, setβ_same, ownB, Option.some.injEq] at hb
          exact .inr (by omega))
        (fun i j b hi hj _ _ => by rw [hi, hj])
        (fun i b hi hb hok => by
          subst hi
          simp only [own, wr_getD, if_true, setβ_same, ownB, Option.some.injEq] at hb
          have := h.okLt b hok
          omega) rfl rfl rfl
      have hs : execOp (⟨tmps, ds⟩ : Act).eval ⟨dst, .makeMap t r, ty, pos, aft, gd⟩ = (do pure (.value (← (Instr.makeMap t (r.map (⟨tmps, ds⟩ : Act).eval)))) : Sem Next) := rfl
      rw [hs]
      exact .value hrun key.2 (.one _ _ (.osl id _ (.inr rfl) (fun _ => (setβ_same _ _ _).symm) rfl))
    cases r with
    | none =>
      obtain rfl := ret_run1 hr
      exact main rfl rfl
    | some o =>
      simp only [Option.map_some] at hr
      split at hr
      · rename_i e; cases e
      · rename_i k n e
        simp at e
        obtain rfl := ret_run1 hr
        exact main (by simp [Instr.makeMap, run_underlying hu, ev_int ds h e, asInt, asIntOf, newObj]; rfl) rfl
      · cases hr
  · cases hr
end
end Go.Sk
