/- Calls by reference are sound. -/
import Derived.Test.YtgamdchlgikaiaaSkRA
set_option linter.unusedSimpArgs false
set_option linter.unusedVariables false
set_option linter.unusedSectionVars false
namespace Go.Sk
open Go

theorem ownB_ren (g : Nat → Option Nat) (o : Obj) (v : Value) : ownB (renO g o) v = ownB o v := by
  cases o <;> first | rfl | (cases v <;> first | rfl | (rename_i a; cases a <;> rfl))
theorem ownB_row {t t' : Ty} (xs : List (El t)) (ys : List (El t')) (v : Value) : ownB (.row t xs) v = ownB (.row t' ys) v := by
  cases v <;> first | rfl | (rename_i a b c; cases a <;> rfl)
theorem ownB_full {t t' : Ty} (xs : List (El t)) (ys : List (El t')) (v : Value) : ownB (.row t xs) v = ownB (.full t' ys) v := by
  cases v <;> first | rfl | (rename_i a b c; cases a <;> rfl)
theorem renCs_len (g : Nat → Option Nat) (cs : List CV) : (renCs g cs).length = cs.length := by simp [renCs]
/-- objects of one kind, with the same blocks -/
def Twin (a o : Obj) : Prop := a.kd = o.kd ∧ ∀ v, ownB a v = ownB o v
theorem Twin.row {t : Ty} (xs ys : List (El t)) : Twin (.row t xs) (.row t ys) := ⟨rfl, fun v => ownB_row _ _ v⟩
theorem Twin.full {t : Ty} (xs ys : List (El t)) : Twin (.full t xs) (.row t ys) := ⟨rfl, fun v => (ownB_full _ _ v).symm⟩
theorem Twin.map {kt vt : Ty} {g b b' : Bool} (xs ys : List (El kt × El vt)) : Twin (.map kt vt g xs b) (.map kt vt g ys b') := ⟨rfl, fun v => by cases v <;> first | rfl | (rename_i a; cases a <;> rfl)⟩
theorem handle_of {w : World} {ok rd : Nat → Prop} {β : Nat → Value} {kd : Nat → KD} {al : Nat → Prop} {i : Nat} {a o : Obj} (h : ObjRel w ok rd β kd al i a) (hk : a.kd = o.kd) (ho : Owned o) : (∃ A n c, β i = .slice A n c) ∨ ∃ r, β i = .map r := by
  cases a with
  | dead => exact absurd hk.symm ho.some
  | ghost cs => exact absurd hk.symm ho.notGhost
  | cells cs => rcases ho with ⟨t, xs, rfl⟩ | ⟨kt, vt, g, es, b, rfl⟩ <;> cases hk
  | row t xs => obtain ⟨A, c, e, _⟩ := h; exact .inl ⟨_, _, _, e⟩
  | full t xs => obtain ⟨A, e, _⟩ := h; exact .inl ⟨_, _, _, e⟩
  | frz t xs =>
    obtain ⟨A, c, e, _⟩ := h
    simp at e
    exact .inl ⟨_, _, _, e⟩
  | map kt vt g es b => obtain ⟨r, arr, clock, e, _⟩ := h; exact .inr ⟨_, e⟩
def newCountR (P : Program) (C : Cfg) (g : FuncId) : Nat := match rtsOf P (C.own g) (resTypes P g) with
  | some ds => ownCounts ds + refRoom
  | none => 0

section
variable {P : Program} {X : Fr} {env : List V} {mem : List Obj} {al : Nat → Prop} {tmps : Array Value} {w : World} {β : Nat → Value} {ok : Nat → Prop}

/-- the callee's state -/
theorem enter_ref (h : Inv X env mem al tmps w β ok) {args : List V} {us : Array Value} (hl : us.size = args.length)
    (hargs : ∀ (j : Nat) v u, args[j]? = some v → us.toList[j]? = some u → RelV w ok X.rd β (kds mem) al v u) {id : Nat} (hid : ¬ al id) {acc : List (Nat × Obj)} (ha : ∀ p ∈ acc, p.2 = mem.getD p.1 .dead) (hng : ∀ p ∈ acc, isGhost p.2 = false) (hnd : (firsts acc).Nodup)
    {rs : List (Nat × CV × VD)} (hroot : ∀ r ∈ rs, RootOk mem r) :
    Inv ⟨w, ok, fun b => ∃ i ∈ firsts acc, own mem β i = some b, X.rd, .tuple (List.toArray (rs.map fun r => β r.1))⟩ (renVs (fun i => posOf (id :: firsts acc) i 0) args)
      (.ghost (renCs (fun i => posOf (id :: firsts acc) i 0) (rootCVs rs)) :: renPs (fun i => posOf (id :: firsts acc) i 0) acc) (fun j => j < (firsts acc).length + 1) us w
      (fun j => if j = 0 then .tuple (List.toArray (rs.map fun r => β r.1)) else β ((firsts acc).getD (j - 1) 0)) ok := by
  let gg : Nat → Option Nat := fun i => posOf (id :: firsts acc) i 0
  let memc : List Obj := .ghost (renCs gg (rootCVs rs)) :: renPs gg acc
  let βc : Nat → Value := fun j => if j = 0 then .tuple (List.toArray (rs.map fun r => β r.1)) else β ((firsts acc).getD (j - 1) 0)
  have hlen : (firsts acc).length = acc.length := by simp [firsts_eq]
  have hget : ∀ (k i : Nat), (firsts acc)[k]? = some i → ∃ p : Nat × Obj, acc[k]? = some p ∧ p.1 = i := fun k i hk => by
    rw [firsts_eq, List.getElem?_map] at hk
    cases hp : acc[k]? with
    | none => rw [hp] at hk; cases hk
    | some p => rw [hp] at hk; simp at hk; exact ⟨p, rfl, hk⟩
  have hm : ∀ k i, (firsts acc)[k]? = some i → memc.getD (k + 1) .dead = renO gg (mem.getD i .dead) := fun k i hk => by
    obtain ⟨p, h1, h2⟩ := hget k i hk
    show (renPs gg acc).getD k .dead = _
    rw [List.getD_eq_getElem?_getD, renPs_get, h1]
    simp only [Option.map_some, Option.getD_some]
    rw [ha p (List.mem_of_getElem? h1), h2]
  have hmn : ∀ k, (firsts acc)[k]? = none → memc.getD (k + 1) .dead = .dead := fun k hk => by
    have : acc.length ≤ k := by rw [← hlen]; exact List.getElem?_eq_none_iff.1 hk
    show (renPs gg acc).getD k .dead = _
    rw [List.getD_eq_getElem?_getD, List.getElem?_eq_none (by rw [renPs_len]; exact this)]
    rfl
  have hβ : ∀ k i, (firsts acc)[k]? = some i → βc (k + 1) = β i := fun k i hk => by
    show β ((firsts acc).getD (k + 1 - 1) 0) = β i
    rw [Nat.add_sub_cancel, List.getD_eq_getElem?_getD, hk]
    rfl
  have hg : ∀ i j, gg i = some j → al i → j < (firsts acc).length + 1 ∧ kds memc j = kds mem i ∧ βc j = β i := fun i j hij hai => by
    have h1 := (posOf_spec (id :: firsts acc) i 0 j hij).2
    simp only [Nat.sub_zero] at h1
    cases j with
    | zero => simp at h1; subst h1; exact absurd hai hid
    | succ k =>
      simp only [List.getElem?_cons_succ] at h1
      refine ⟨by have := (List.getElem?_eq_some_iff.1 h1).1; omega, ?_, hβ k i h1⟩
      show (memc.getD (k + 1) .dead).kd = _
      rw [hm k i h1, renO_kd]
  have hown : ∀ j b, own memc βc j = some b → ∃ k i, j = k + 1 ∧ (firsts acc)[k]? = some i ∧ own mem β i = some b := fun j b hb => by
    cases j with
    | zero => simp [own, ownB, memc] at hb
    | succ k =>
      cases hk : (firsts acc)[k]? with
      | none =>
        unfold own at hb
        rw [hmn k hk] at hb
        simp [ownB] at hb
      | some i =>
        unfold own at hb
        rw [hm k i hk, ownB_ren, hβ k i hk] at hb
        exact ⟨k, i, rfl, hk, hb⟩
  have hrel : RelL w ok X.rd β (kds mem) al (rootCVs rs) (rs.map fun r => β r.1) := by
    refine ⟨by rw [rootCVs_eq]; simp, fun k c u hk hu => ?_⟩
    rw [rootCVs_eq, List.getElem?_map] at hk
    rw [List.getElem?_map] at hu
    cases hr : rs[k]? with
    | none => rw [hr] at hk; cases hk
    | some r =>
      rw [hr] at hk hu
      simp at hk hu
      subst hk
      subst hu
      rcases hroot r (List.mem_of_getElem? hr) with ⟨e, cs, hcs⟩ | ⟨e, ⟨t, _, hcs⟩ | ⟨kt, vt, g', b', _, es, hcs⟩⟩
      · have hob := h.obj r.1
        rw [hcs] at hob
        obtain ⟨b, us', T, h1, h2, h3⟩ := hob
        rw [e]
        exact .ptr _ _ _ (h.len _ (by rw [hcs]; simp [Obj.kd])) (fun _ => ⟨b, h1, h1⟩) (by rw [h1]; rfl)
      · have hob := h.obj r.1
        rw [e]
        rcases hcs with ⟨xs, hcs⟩ | ⟨xs, hcs⟩
        · rw [hcs] at hob
          obtain ⟨A, c, h1, _⟩ := hob
          exact .osl _ _ (h.len _ (by rw [hcs]; simp [Obj.kd])) (fun _ => rfl) (by rw [h1]; rfl)
        · rw [hcs] at hob
          obtain ⟨A, h1, _⟩ := hob
          exact .osl _ _ (h.len _ (by rw [hcs]; simp [Obj.kd])) (fun _ => rfl) (by rw [h1]; rfl)
      · have hob := h.obj r.1
        rw [hcs] at hob
        obtain ⟨r', arr, clock, h1, _⟩ := hob
        rw [e]
        exact .osl _ _ (h.len _ (by rw [hcs]; simp [Obj.kd])) (fun _ => rfl) (by rw [h1]; rfl)
  exact {
    size := by rw [renVs_len]; exact hl
    env := fun t v ht => by
      rw [renVs_get] at ht
      cases ha : args[t]? with
      | none => rw [ha] at ht; cases ht
      | some v0 =>
        rw [ha] at ht
        simp at ht
        subst ht
        have hlt : t < args.length := (List.getElem?_eq_some_iff.1 ha).1
        have hlt2 : t < us.size := by omega
        have e : us.getD t undef = us[t] := by rw [Array.getD_eq_getD_getElem?, Array.getElem?_eq_getElem hlt2]; rfl
        rw [e]
        exact RelV.ren hg (hargs t v0 _ ha (by simp [hlt2]))
    obj := fun j => by
      cases j with
      | zero => exact ⟨_, rfl, RelL.ren hg hrel⟩
      | succ k =>
        cases hk : (firsts acc)[k]? with
        | none => rw [hmn k hk]; trivial
        | some i =>
          rw [hm k i hk]
          exact ObjRel.ren hg (hβ k i hk) (h.obj i)
    len := fun j hj => by
      cases j with
      | zero => omega
      | succ k =>
        cases hk : (firsts acc)[k]? with
        | none =>
          have hj2 : (memc.getD (k + 1) .dead).kd ≠ .none := hj
          rw [hmn k hk] at hj2
          exact absurd rfl hj2
        | some i => have := (List.getElem?_eq_some_iff.1 hk).1; omega
    inj := fun j j' b h1 h2 => by
      obtain ⟨k, i, rfl, hk, hi⟩ := hown j b h1
      obtain ⟨k', i', rfl, hk', hi'⟩ := hown j' b h2
      have := h.inj i i' b hi hi'
      subst this
      obtain ⟨h3, h4⟩ := List.getElem?_eq_some_iff.1 hk
      obtain ⟨h5, h6⟩ := List.getElem?_eq_some_iff.1 hk'
      have := (List.getElem_inj hnd).1 (h4.trans h6.symm)
      omega
    apart := fun j b h1 => by
      obtain ⟨k, i, rfl, hk, hi⟩ := hown j b h1
      exact h.apart i b hi
    apartR := fun j b h1 => by
      obtain ⟨k, i, rfl, hk, hi⟩ := hown j b h1
      exact h.apartR i b hi
    gh := fun j hj => by
      cases j with
      | zero => rfl
      | succ k =>
        cases hk : (firsts acc)[k]? with
        | none =>
          have hj : (memc.getD (k + 1) .dead).kd = .ghost := hj
          rw [hmn k hk] at hj; cases hj
        | some i =>
          have hj : (memc.getD (k + 1) .dead).kd = .ghost := hj
          rw [hm k i hk, renO_kd] at hj
          obtain ⟨p, h1, h2⟩ := hget k i hk
          have h3 := hng p (List.mem_of_getElem? h1)
          rw [ha p (List.mem_of_getElem? h1), h2] at h3
          cases hmi : mem.getD i .dead <;> rw [hmi] at h3 hj <;> simp [isGhost, Obj.kd] at h3 hj
    rdLt := fun b hb => by have := h.rdLt b hb; have := h.grow; show b < w.heap.size; omega
    okLt := h.okLt
    okOld := fun b hb _ => .inl hb
    ownOld := fun j b h1 _ => by
      obtain ⟨k, i, rfl, hk, hi⟩ := hown j b h1
      exact ⟨i, List.mem_of_getElem? hk, hi⟩
    keep := fun _ _ _ => rfl
    grow := Nat.le_refl _
    os := rfl
    out := rfl
    tape := rfl }

/-- what comes back -/
theorem back_ref (h : Inv X env mem al tmps w β ok) {id nn : Nat} (hid : ∀ j, id ≤ j → j < id + nn → ¬ al j) {acc : List (Nat × Obj)} (ha : ∀ p ∈ acc, p.2 = mem.getD p.1 .dead)
    {rs : List (Nat × CV × VD)} (hroot : ∀ r ∈ rs, RootOk mem r ∧ r.1 ∈ firsts acc) {ds : List VD} {x : ElV (ds ++ rootVDs rs)} (hN : ownCounts (ds ++ rootVDs rs) ≤ nn) {gh : Value} {w' : World} {β2 : Nat → Value} {ok2 : Nat → Prop}
    (h2 : Inv ⟨w, ok, fun b => ∃ i ∈ firsts acc, own mem β i = some b, X.rd, gh⟩ [] (wrs [] (numbered id (packVs (ds ++ rootVDs rs) x id).2)) (fun i => id ≤ i ∧ i < id + ownCounts (ds ++ rootVDs rs)) #[] w' β2 ok2)
    (hroots : ∀ (k : Nat) r v, rs[k]? = some r → (packVs (ds ++ rootVDs rs) x id).1[ds.length + k]? = some v → RootAt w' ok2 X.rd (wrs [] (numbered id (packVs (ds ++ rootVDs rs) x id).2)) (fun i => id ≤ i ∧ i < id + ownCounts (ds ++ rootVDs rs)) β2 (β r.1) v)
    {mem' : List Obj} (hmem : mem' = wrs mem (killed acc ++ (numbered id (packVs (ds ++ rootVDs rs) x id).2 ++ rootWs (numbered id (packVs (ds ++ rootVDs rs) x id).2) rs ((packVs (ds ++ rootVDs rs) x id).1.drop ds.length)))) :
    ∃ β' ok', Inv X env mem' (fun i => al i ∨ (id ≤ i ∧ i < id + nn)) tmps w' β' ok' ∧
      Ext w' ok2 X.rd β2 (kds (wrs [] (numbered id (packVs (ds ++ rootVDs rs) x id).2))) (fun i => id ≤ i ∧ i < id + ownCounts (ds ++ rootVDs rs)) w' ok' β' (kds mem') (fun i => al i ∨ (id ≤ i ∧ i < id + nn)) := by
  generalize hD : ds ++ rootVDs rs = D at x hN h2 hroots hmem
  generalize hvs : (packVs D x id).1 = vs at hroots hmem
  generalize hos : (packVs D x id).2 = os at h2 hroots hmem
  have hcnt : os.length = ownCounts D := by rw [← hos]; exact packVs_count _ _ _
  have hrows : ∀ o ∈ os, Owned o := by rw [← hos]; exact packVs_rows _ _ _
  have hvlen : vs.length = ds.length + rs.length := by rw [← hvs, packVs_len, ← hD, rootVDs_eq]; simp
  let new : Nat → Prop := fun i => id ≤ i ∧ i < id + ownCounts D
  let K : Nat → Prop := fun i => ∃ p ∈ acc, p.1 = i ∧ killKind p.2 = true
  let β' : Nat → Value := fun i => if id ≤ i ∧ i < id + ownCounts D then β2 i else β i
  have hβn : ∀ i, new i → β' i = β2 i := fun i hi => if_pos hi
  have hβo : ∀ i, ¬ new i → β' i = β i := fun i hi => if_neg hi
  have hnal : ∀ i, new i → ¬ al i := fun i hi => hid i hi.1 (by have := hi.2; omega)
  have hK : ∀ i, K i → killKind (mem.getD i .dead) = true ∧ al i ∧ ¬ new i ∧ i ∈ firsts acc := fun i ⟨p, hp, e, hk⟩ => by
    have h1 : killKind (mem.getD i .dead) = true := by rw [← e, ← ha p hp]; exact hk
    have h3 : al i := h.len i (by intro h0; cases hm : mem.getD i .dead <;> rw [hm] at h1 h0 <;> simp [killKind, Obj.kd] at h1 h0)
    exact ⟨h1, h3, fun hn => hnal i hn h3, by rw [firsts_eq]; exact List.mem_map.2 ⟨p, hp, e⟩⟩
  have hfK : ∀ i ∈ firsts acc, killKind (mem.getD i .dead) = true → K i := fun i hi hk => by
    rw [firsts_eq] at hi
    obtain ⟨p, hp, e⟩ := List.mem_map.1 hi
    exact ⟨p, hp, e, by rw [ha p hp, e]; exact hk⟩
  have hrootK : ∀ r ∈ rs, K r.1 := fun r hr => by
    refine hfK _ (hroot r hr).2 ?_
    rcases (hroot r hr).1 with ⟨_, cs, e⟩ | ⟨_, ⟨t, _, ⟨xs, e⟩ | ⟨xs, e⟩⟩ | ⟨_, _, _, _, _, _, e⟩⟩ <;> rw [e] <;> rfl
  have hownK : ∀ i b, i ∈ firsts acc → own mem β i = some b → K i := fun i b hi hb => hfK i hi (by
    unfold own at hb
    cases hm : mem.getD i .dead <;> rw [hm] at hb <;> first | rfl | simp [ownB] at hb)
  have hM2 : ∀ i, (wrs [] (numbered id os)).getD i .dead = if id ≤ i ∧ i < id + ownCounts D then os.getD (i - id) .dead else .dead := fun i => by
    rw [numbered_getD, hcnt]; rfl
  have hM2row : ∀ i, new i → Owned ((wrs [] (numbered id os)).getD i .dead) := fun i hi => by
    rw [hM2, if_pos hi]
    have hlt : i - id < os.length := by have := hi.1; have := hi.2; omega
    rw [List.getD_eq_getElem?_getD, List.getElem?_eq_getElem hlt]
    exact hrows _ (List.getElem_mem hlt)
  have hm1 : ∀ i, (wrs (wrs mem (killed acc)) (numbered id os)).getD i .dead = if id ≤ i ∧ i < id + ownCounts D then (wrs [] (numbered id os)).getD i .dead else (wrs mem (killed acc)).getD i .dead := fun i => by
    rw [numbered_getD, hcnt]
    split
    · rename_i hi; rw [hM2, if_pos hi]
    · rfl
  have hdrop : ∀ k v, (vs.drop ds.length)[k]? = some v → vs[ds.length + k]? = some v := fun k v hv => by rwa [List.getElem?_drop] at hv
  have howl : ∀ k r a, rs[k]? = some r → r.2.1 = .osl a → ∃ n o, Twin (mem.getD r.1 .dead) o ∧ Owned o ∧ vs[ds.length + k]? = some (.one (.osl n)) ∧ new n ∧ (wrs [] (numbered id os)).getD n .dead = o := fun k r a hr hc => by
    rcases (hroot r (List.mem_of_getElem? hr)).1 with ⟨e, _⟩ | ⟨e, ⟨t, ht, hx⟩ | ⟨kt, vt, g, b, ht, ys, hx⟩⟩
    · rw [hc] at e; cases e
    · have hDk : D[ds.length + k]? = some (.one (.own t)) := by
        rw [← hD, List.getElem?_append_right (by omega), Nat.add_sub_cancel_left, rootVDs_eq, List.getElem?_map, hr]
        simp [ht]
      obtain ⟨n, xs, h3, h4, h5, h6⟩ := packVs_own D x id _ t hDk
      rw [hvs] at h3
      rw [hos] at h6
      refine ⟨n, .row t xs, ?_, .inl ⟨t, xs, rfl⟩, h3, ⟨h4, h5⟩, ?_⟩
      · rcases hx with ⟨ys, hx⟩ | ⟨ys, hx⟩ <;> rw [hx]
        · exact Twin.row _ _
        · exact Twin.full _ _
      · rw [hM2, if_pos ⟨h4, h5⟩, List.getD_eq_getElem?_getD, h6]; rfl
    · have hDk : D[ds.length + k]? = some (.one (.map kt vt g b)) := by
        rw [← hD, List.getElem?_append_right (by omega), Nat.add_sub_cancel_left, rootVDs_eq, List.getElem?_map, hr]
        simp [ht]
      obtain ⟨n, es, h3, h4, h5, h6⟩ := packVs_map D x id _ kt vt g b hDk
      rw [hvs] at h3
      rw [hos] at h6
      refine ⟨n, .map kt vt g es b, by rw [hx]; exact Twin.map _ _, .inr ⟨kt, vt, g, es, b, rfl⟩, h3, ⟨h4, h5⟩, ?_⟩
      rw [hM2, if_pos ⟨h4, h5⟩, List.getD_eq_getElem?_getD, h6]; rfl
  have hmem' : mem' = wrs (wrs (wrs mem (killed acc)) (numbered id os)) (rootWs (numbered id os) rs (vs.drop ds.length)) := by
    rw [hmem, wrs_append, wrs_append]
  -- what lies where
  have hfin : ∀ i, (∃ k r v, rs[k]? = some r ∧ i = r.1 ∧ (∃ cs, mem.getD i .dead = .cells cs) ∧ vs[ds.length + k]? = some v ∧ mem'.getD i .dead = .cells v.cells) ∨
      (∃ k r o n, rs[k]? = some r ∧ i = r.1 ∧ (Twin (mem.getD i .dead) o ∧ Owned o) ∧ vs[ds.length + k]? = some (.one (.osl n)) ∧ new n ∧ (wrs [] (numbered id os)).getD n .dead = o ∧ mem'.getD i .dead = o ∧ mem'.getD n .dead = .dead) ∨
      (mem'.getD i .dead = .dead ∧ (K i ∨ new i)) ∨ (new i ∧ mem'.getD i .dead = (wrs [] (numbered id os)).getD i .dead) ∨ (¬ (K i ∨ new i) ∧ mem'.getD i .dead = mem.getD i .dead) := by
    intro i
    have hR := rootWs_getD (numbered id os) rs (vs.drop ds.length) (wrs (wrs mem (killed acc)) (numbered id os)) i
    rw [← hmem'] at hR
    rcases hR with ⟨k, r, v, e1, e2, e3, e4⟩ | ⟨e1, k, r, a, e2, e3, e4⟩ | ⟨e1, e2⟩
    · rcases e4 with ⟨a, b, e4, e5⟩ | ⟨a, n, e4, e5, e6⟩
      · refine .inl ⟨k, r, v, e1, e3, ?_, hdrop k v e2, e5⟩
        rcases (hroot r (List.mem_of_getElem? e1)).1 with ⟨_, hcs⟩ | ⟨e, _⟩
        · rw [e3]; exact hcs
        · rw [e4] at e; cases e
      · obtain ⟨n', o', g1, g1', g2, g3, g4⟩ := howl k r a e1 e4
        have : n' = n := by
          have := hdrop k v e2
          rw [g2, e5] at this
          simpa using this
        subst this
        have hlook : lookO (numbered id os) n' = o' := by
          rw [lookO_numbered os id n' g3.1 (by rw [hcnt]; exact g3.2)]
          rw [hM2, if_pos g3] at g4
          exact g4
        refine .inr (.inl ⟨k, r, o', n', e1, e3, by rw [e3]; exact ⟨g1, g1'⟩, g2, g3, g4, by rw [e6, hlook], ?_⟩)
        have hR2 := rootWs_getD (numbered id os) rs (vs.drop ds.length) (wrs (wrs mem (killed acc)) (numbered id os)) n'
        rw [← hmem'] at hR2
        rcases hR2 with ⟨k2, r2, v2, f1, f2, f3, f4⟩ | ⟨f1, _⟩ | ⟨f1, f2⟩
        · exact absurd g3 (by rw [f3]; exact (hK _ (hrootK r2 (List.mem_of_getElem? f1))).2.2.1)
        · exact f1
        · exact absurd e4 (f2 k r a e1 (by rw [List.getElem?_drop]; exact g2))
    · obtain ⟨n', o', g1, g1', g2, g3, g4⟩ := howl k r a e2 e4
      have : n' = i := by
        have := hdrop k _ e3
        rw [g2] at this
        simpa using this
      subst this
      exact .inr (.inr (.inl ⟨e1, .inr g3⟩))
    · rw [hm1] at e1
      by_cases hn : new i
      · rw [if_pos hn] at e1
        exact .inr (.inr (.inr (.inl ⟨hn, e1⟩)))
      · rw [if_neg hn] at e1
        rcases killed_getD acc mem i with ⟨k1, k2⟩ | ⟨k1, k2⟩
        · exact .inr (.inr (.inl ⟨by rw [e1, k1], .inl k2⟩))
        · refine .inr (.inr (.inr (.inr ⟨?_, by rw [e1, k1]⟩)))
          rintro (⟨p, hp, h3, h4⟩ | h3)
          · rw [k2 p hp h3] at h4; cases h4
          · exact hn h3
  have hsame : ∀ i, ¬ (K i ∨ new i) → mem'.getD i .dead = mem.getD i .dead := fun i hi => by
    rcases hfin i with ⟨k, r, v, e1, rfl, _⟩ | ⟨k, r, o, n, e1, rfl, _⟩ | ⟨_, e⟩ | ⟨e, _⟩ | ⟨_, e⟩
    · exact absurd (.inl (hrootK r (List.mem_of_getElem? e1))) hi
    · exact absurd (.inl (hrootK r (List.mem_of_getElem? e1))) hi
    · exact absurd e hi
    · exact absurd (.inr e) hi
    · exact e
  -- a root's row keeps its handle
  have hrowβ : ∀ k r o n, rs[k]? = some r → (Twin (mem.getD r.1 .dead) o ∧ Owned o) → vs[ds.length + k]? = some (.one (.osl n)) → new n → (wrs [] (numbered id os)).getD n .dead = o → β r.1 = β2 n := by
    intro k r o n e1 e2 e3 e4 e5
    rcases hroots k r _ e1 e3 with ⟨h1, h3⟩ | ⟨b, us, T, h1, _⟩
    · exact h3.one'.osl_inv' (by show ((wrs [] (numbered id os)).getD n .dead).kd ≠ _; rw [e5]; exact e2.2.some)
    · rcases handle_of (h.obj r.1) e2.1.1 e2.2 with ⟨A, m, c, h3⟩ | ⟨q, h3⟩
      · rw [h3] at h1; cases h1
      · rw [h3] at h1; cases h1
  have hcellAt : ∀ k r v, rs[k]? = some r → (∃ cs, mem.getD r.1 .dead = .cells cs) → vs[ds.length + k]? = some v → ∃ b us T, β r.1 = .pointer (some ⟨b, 0, none⟩) ∧ RelL w' ok2 X.rd β2 (kds (wrs [] (numbered id os))) (fun i => id ≤ i ∧ i < id + ownCounts D) v.cells us ∧ w'.heap[b]? = some (.cells us.toArray T (0, 0)) ∧ ¬ ok2 b ∧ ∀ i, own (wrs [] (numbered id os)) β2 i ≠ some b := by
    intro k r v e1 ⟨cs, e2⟩ e3
    rcases hroots k r v e1 e3 with ⟨h1, h3⟩ | hx
    · have hob := h.obj r.1
      rw [e2] at hob
      obtain ⟨b, us, T, h4, _⟩ := hob
      rw [h4] at h1
      rcases h1 with ⟨A, m, c, h1⟩ | ⟨q, h1⟩ <;> cases h1
    · exact hx
  have hsrc : ∀ i b, (K i ∨ new i) → own mem' β' i = some b → (new i ∧ own (wrs [] (numbered id os)) β2 i = some b) ∨
      (K i ∧ own mem β i = some b ∧ ((∃ n, new n ∧ own (wrs [] (numbered id os)) β2 n = some b ∧ mem'.getD n .dead = .dead) ∨ (¬ ok2 b ∧ ∀ j, own (wrs [] (numbered id os)) β2 j ≠ some b))) := by
    intro i b hi hb
    unfold own at hb
    rcases hfin i with ⟨k, r, v, e1, rfl, e2, e3, e4⟩ | ⟨k, r, o, n, e1, rfl, e2, e3, e4, e5, e6, e7⟩ | ⟨e1, _⟩ | ⟨e1, e2⟩ | ⟨e1, _⟩
    · have hk := hrootK r (List.mem_of_getElem? e1)
      obtain ⟨b', us, T, g1, g2, g3, g4, g5⟩ := hcellAt k r v e1 e2 e3
      rw [e4, hβo _ (hK _ hk).2.2.1, g1] at hb
      simp [ownB] at hb
      subst hb
      refine .inr ⟨hk, ?_, .inr ⟨g4, g5⟩⟩
      obtain ⟨cs, e2⟩ := e2
      unfold own
      rw [e2, g1]; rfl
    · have hk := hrootK r (List.mem_of_getElem? e1)
      have hbn := hrowβ k r o n e1 e2 e3 e4 e5
      rw [e6, hβo _ (hK _ hk).2.2.1] at hb
      refine .inr ⟨hk, ?_, .inl ⟨n, e4, ?_, e7⟩⟩
      · unfold own
        rw [e2.1.2]; exact hb
      · unfold own
        rw [e5, ← hbn]; exact hb
    · rw [e1] at hb; simp [ownB] at hb
    · rw [e2, hβn i e1] at hb
      exact .inl ⟨e1, hb⟩
    · exact absurd hi e1
  have key := h.update (mem' := mem') (al' := fun i => al i ∨ (id ≤ i ∧ i < id + nn)) (β' := β') (ok' := fun b => ok b ∨ ok2 b) (w' := w') (fun i => K i ∨ new i) (fun _ h => .inl h)
    (fun i hi _ => by
      rcases hi with hi | hi
      · exact .inl (hK i hi).2.1
      · exact .inr ⟨hi.1, by have := hi.2; omega⟩)
    hsame (fun i hi => hβo i fun h => hi (.inr h))
    (fun i hi ha => by
      have hnn : ¬ new i := fun h => hnal i h ha
      rcases hfin i with ⟨k, r, v, e1, rfl, ⟨cs, e2⟩, e3, e4⟩ | ⟨k, r, o, n, e1, rfl, e2, e3, e4, e5, e6, e7⟩ | ⟨e1, _⟩ | ⟨e1, e2⟩ | ⟨e1, _⟩
      · left; exact ⟨by show (mem'.getD r.1 .dead).kd = (mem.getD r.1 .dead).kd; rw [e4, e2]; rfl, hβo _ hnn⟩
      · left; exact ⟨by show (mem'.getD r.1 .dead).kd = (mem.getD r.1 .dead).kd; rw [e6]; exact e2.1.1.symm, hβo _ hnn⟩
      · right; show (mem'.getD i .dead).kd = _; rw [e1]; rfl
      · exact absurd e1 hnn
      · exact absurd hi e1)
    (fun i hi hg => by
      have hg : (mem'.getD i .dead).kd = .ghost := hg
      rcases hfin i with ⟨k, r, v, e1, rfl, e2, e3, e4⟩ | ⟨k, r, o, n, e1, rfl, e2, e3, e4, e5, e6, e7⟩ | ⟨e1, _⟩ | ⟨e1, e2⟩ | ⟨e1, _⟩
      · rw [e4] at hg; cases hg
      · rw [e6] at hg; exact absurd hg e2.2.notGhost
      · rw [e1] at hg; cases hg
      · rw [e2] at hg; exact absurd hg (hM2row i e1).notGhost
      · exact absurd hi e1)
    (fun b hb hno => h2.keep b hb fun ⟨i, hi, hib⟩ => hno i (.inl (hownK i b hi hib)) hib) h2.grow (fun _ h => .inl h)
    (fun b hb => by
      rcases hb with hb | hb
      · exact .inl hb
      · rcases Nat.lt_or_ge b w.heap.size with hlt | hge
        · rcases h2.okOld b hb hlt with h | ⟨i, hi, hib⟩
          · exact .inl h
          · exact .inr (.inl ⟨i, .inl (hownK i b hi hib), hib⟩)
        · exact .inr (.inr ⟨hge, h2.okLt b hb⟩))
    (fun ext i hi => by
      have hx2 : Ext w' ok2 X.rd β2 (kds (wrs [] (numbered id os))) (fun i => id ≤ i ∧ i < id + ownCounts D) w' (fun b => ok b ∨ ok2 b) β' (kds mem') (fun i => al i ∨ (id ≤ i ∧ i < id + nn)) :=
        ⟨fun _ _ => rfl, fun _ _ => rfl, fun _ h => .inr h, fun i hi => by
          have hni : new i := hi
          rcases hfin i with ⟨k, r, v, e1, rfl, e2, e3, e4⟩ | ⟨k, r, o, n, e1, rfl, e2, e3, e4, e5, e6, e7⟩ | ⟨e1, _⟩ | ⟨e1, e2⟩ | ⟨e1, _⟩
          · exact absurd hni (hK _ (hrootK r (List.mem_of_getElem? e1))).2.2.1
          · exact absurd hni (hK _ (hrootK r (List.mem_of_getElem? e1))).2.2.1
          · right; show (mem'.getD i .dead).kd = _; rw [e1]; rfl
          · left; show (mem'.getD i .dead).kd = ((wrs [] (numbered id os)).getD i .dead).kd; rw [e2]
          · exact absurd (.inr hni) e1, fun i hi _ => hβn i hi, fun i hi => .inr ⟨hi.1, by have := hi.2; omega⟩⟩
      rcases hfin i with ⟨k, r, v, e1, rfl, e2, e3, e4⟩ | ⟨k, r, o, n, e1, rfl, e2, e3, e4, e5, e6, e7⟩ | ⟨e1, _⟩ | ⟨e1, e2⟩ | ⟨e1, _⟩
      · obtain ⟨b', us, T, g1, g2, g3, g4, g5⟩ := hcellAt k r v e1 e2 e3
        rw [e4]
        exact ⟨b', us, T, by rw [hβo _ (hK _ (hrootK r (List.mem_of_getElem? e1))).2.2.1, g1], g3, g2.mono hx2⟩
      · rw [e6]
        have hob := h2.obj n
        rw [e5] at hob
        exact e2.2.move hob (by rw [hβo _ (hK _ (hrootK r (List.mem_of_getElem? e1))).2.2.1]; exact hrowβ k r o n e1 e2 e3 e4 e5) fun _ h => .inr h
      · rw [e1]; trivial
      · rw [e2]
        exact (hM2row i e1).move (h2.obj i) (hβn i e1) fun _ h => .inr h
      · exact absurd hi e1)
    (fun i b hi hb => by
      rcases hsrc i b hi hb with ⟨_, h3⟩ | ⟨h3, h4, _⟩
      · rcases Nat.lt_or_ge b w.heap.size with hlt | hge
        · obtain ⟨j, hj, hjb⟩ := h2.ownOld i b h3 hlt
          exact .inl ⟨j, .inl (hownK j b hj hjb), hjb⟩
        · exact .inr hge
      · exact .inl ⟨i, .inl h3, h4⟩)
    (fun i j b hi hj h1 h3 => by
      have dead : ∀ i n, new n → own (wrs [] (numbered id os)) β2 i = some b → own mem' β' i = some b → own (wrs [] (numbered id os)) β2 n = some b → mem'.getD n .dead = .dead → False := fun i n _ a1 a2 a3 a4 => by
        have := h2.inj i n b a1 a3
        subst this
        unfold own at a2
        rw [a4] at a2
        simp [ownB] at a2
      rcases hsrc i b hi h1 with ⟨_, a1⟩ | ⟨_, a1, a2⟩ <;> rcases hsrc j b hj h3 with ⟨_, b1⟩ | ⟨_, b1, b2⟩
      · exact h2.inj i j b a1 b1
      · rcases b2 with ⟨n, c1, c2, c3⟩ | ⟨_, c1⟩
        · exact (dead i n c1 a1 h1 c2 c3).elim
        · exact absurd a1 (c1 i)
      · rcases a2 with ⟨n, c1, c2, c3⟩ | ⟨_, c1⟩
        · exact (dead j n c1 b1 h3 c2 c3).elim
        · exact absurd b1 (c1 j)
      · exact h.inj i j b a1 b1)
    (fun i b hi hb => by
      rcases hsrc i b hi hb with ⟨_, a1⟩ | ⟨_, a1, a2⟩
      · rintro (h1 | h1)
        · rcases Nat.lt_or_ge b w.heap.size with hlt | hge
          · obtain ⟨j, hj, hjb⟩ := h2.ownOld i b a1 hlt
            exact h.apart j b hjb h1
          · have := h.okLt b h1; omega
        · exact h2.apart i b a1 h1
      · rintro (h1 | h1)
        · exact h.apart i b a1 h1
        · rcases a2 with ⟨n, c1, c2, c3⟩ | ⟨c1, _⟩
          · exact h2.apart n b c2 h1
          · exact c1 h1) h2.os h2.out h2.tape
  refine ⟨β', _, key.2, ⟨fun _ _ => rfl, fun _ _ => rfl, fun _ h => .inr h, fun i hi => ?_, fun i hi _ => hβn i hi, fun i hi => .inr ⟨hi.1, by have := hi.2; omega⟩⟩⟩
  have hni : new i := hi
  rcases hfin i with ⟨k, r, v, e1, rfl, e2, e3, e4⟩ | ⟨k, r, o, n, e1, rfl, e2, e3, e4, e5, e6, e7⟩ | ⟨e1, _⟩ | ⟨e1, e2⟩ | ⟨e1, _⟩
  · exact absurd hni (hK _ (hrootK r (List.mem_of_getElem? e1))).2.2.1
  · exact absurd hni (hK _ (hrootK r (List.mem_of_getElem? e1))).2.2.1
  · right; show (mem'.getD i .dead).kd = _; rw [e1]; rfl
  · left; show (mem'.getD i .dead).kd = ((wrs [] (numbered id os)).getD i .dead).kd; rw [e2]
  · exact absurd (.inr hni) e1

theorem callRef_left (C : Cfg) (h : Inv X env mem al tmps w β ok) {mode : RefMode} {g : FuncId} {id : Nat} {args : List V} {us : Array Value} (hl : us.size = args.length)
    (hargs : ∀ (j : Nat) v u, args[j]? = some v → us.toList[j]? = some u → RelV w ok X.rd β (kds mem) al v u) (hid : ∀ j, id ≤ j → j < id + newCountR P C g → ¬ al j) {call : CallF} {out : Out}
    (hr : (callRef P C mode g args id).runC call mem = some out) (hcall : ∀ (as : List V) (m : List Obj) (ρ : RD) (x : ρ.El), call g as m ρ = some x → FnSpec P g as m ρ x) :
    Calls P g us w fun e w' => ∃ v β' ok', e = .returned v ∧ Inv X env (wrs mem out.ws) (fun i => al i ∨ (id ≤ i ∧ i < id + newCountR P C g)) tmps w' β' ok' ∧
      RelV w' ok' X.rd β' (kds (wrs mem out.ws)) (fun i => al i ∨ (id ≤ i ∧ i < id + newCountR P C g)) out.v v := by
  unfold callRef at hr
  split at hr
  · cases hr
  · rename_i ds hds
    have hcnt : newCountR P C g = ownCounts ds + refRoom := by unfold newCountR; rw [hds]
    rw [hcnt] at hid ⊢
    rw [runC_bind, runC_CF _ (CF_grab _ _ _)] at hr
    cases hacc : (grab 200 (idsVs args) []).run1 mem with
    | none => rw [hacc] at hr; cases hr
    | some acc =>
    rw [hacc, Option.bind_some] at hr
    obtain ⟨ha2, hnd⟩ := grab_spec _ _ _ _ hacc (by simp) (by simp [firsts])
    have ha : ∀ p ∈ acc, p.2 = mem.getD p.1 .dead := fun p hp => (ha2 p hp).1
    cases hnid : hasNat (firsts acc) id with
    | true => rw [hnid] at hr; cases hr
    | false =>
    rw [hnid] at hr
    simp only [cond] at hr
    split at hr
    · cases hr
    · rename_i rs hrs
      obtain ⟨hroot, hrnd⟩ := rootsOf_spec ha _ _ hrs
      cases hdec : decide (ownCounts (ds ++ rootVDs rs) ≤ ownCounts ds + refRoom) with
      | false => rw [hdec] at hr; cases hr
      | true =>
      rw [hdec] at hr
      simp only [Rd.runC] at hr
      cases hx : call g (renVs (fun i => posOf (id :: firsts acc) i 0) args) (.ghost (renCs (fun i => posOf (id :: firsts acc) i 0) (rootCVs rs)) :: renPs (fun i => posOf (id :: firsts acc) i 0) acc) ⟨ds ++ rootVDs rs, rs.length⟩ with
      | none => rw [hx] at hr; cases hr
      | some x =>
      rw [hx] at hr
      simp only [Option.bind_some, Rd.runC, Option.some.injEq] at hr
      subst hr
      have hin := enter_ref h hl hargs (hid id (Nat.le_refl _) (by unfold refRoom; omega)) ha (fun p hp => (ha2 p hp).2) hnd (rs := rs) fun r hr => (hroot r hr).1
      refine Calls.mono (hcall _ _ _ x hx _ _ us _ ok hin (fun j hj => by simp [renPs_len, firsts_eq] at hj ⊢; omega)) fun e w' he => ?_
      obtain ⟨v, rfl, ok2, cvs, hs, hc, hgh, hhs, hpost⟩ := he
      obtain ⟨β2, h2, hvals, hroots⟩ := hpost id
      have hhs' : hs = rs.map fun r => β r.1 := by
        rcases hgh with h0 | h0
        · have h0' : rs.length = 0 := h0
          have e1 : rs = [] := List.eq_nil_of_length_eq_zero h0'
          have e2 : hs = [] := List.eq_nil_of_length_eq_zero (by rw [hhs]; exact h0)
          rw [e1, e2]; rfl
        · simp at h0; exact h0.symm
      have hsub : (ds ++ rootVDs rs).length - rs.length = ds.length := by rw [rootVDs_eq]; simp
      obtain ⟨β', ok', hI, hE⟩ := back_ref h hid ha (fun r hr => ⟨(hroot r hr).1, (hroot r hr).2.1⟩) (by simpa using hdec) h2 (fun k r v hr hv => hroots k (β r.1) v (by rw [hhs', List.getElem?_map, hr]; rfl) (by
        show (packVs (ds ++ rootVDs rs) x id).1[(ds ++ rootVDs rs).length - rs.length + k]? = _
        rw [hsub]; exact hv)) rfl
      refine ⟨v, β', ok', rfl, hI, ?_⟩
      have hc' : Cvs ds.length cvs v := by rw [← hsub]; exact hc
      refine hc'.rel (by simp [packVs_len]) fun j v' cv hj hcv => (hvals j v' cv ?_ hcv).mono hE
      rw [List.getElem?_take] at hj
      split at hj
      · exact hj
      · cases hj
end
end Go.Sk
