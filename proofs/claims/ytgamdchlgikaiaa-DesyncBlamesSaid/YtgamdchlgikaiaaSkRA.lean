/- Calls by reference: what is handed over, what a function is to do, what comes back. -/
import Derived.Test.YtgamdchlgikaiaaSkR
set_option linter.unusedSimpArgs false
set_option linter.unusedVariables false
set_option linter.unusedSectionVars false
namespace Go.Sk
open Go

/-! ### what a function is to do -/
/-- several values as one -/
def Cvs (n : Nat) (cvs : List Value) (v : Value) : Prop := cvs.length = n ∧ (n = 1 → cvs = [v]) ∧ (n ≠ 1 → v = .tuple cvs.toArray)
theorem Cvs.rel {n : Nat} {cvs : List Value} {v : Value} (h : Cvs n cvs v) {w : World} {ok rd : Nat → Prop} {β : Nat → Value} {kd : Nat → KD} {al : Nat → Prop} {vs : List V} (hl : vs.length = n)
    (hr : ∀ (j : Nat) v cv, vs[j]? = some v → cvs[j]? = some cv → RelV w ok rd β kd al v cv) : RelV w ok rd β kd al (tupV vs) v := by
  obtain ⟨h1, h2, h3⟩ := h
  by_cases hn : n = 1
  · have := h2 hn
    subst this
    match vs, hl.trans hn with
    | [x], _ => exact hr 0 x v rfl rfl
  · rw [h3 hn]
    have e : tupV vs = .tup vs := by
      match vs, hl with
      | [], _ => rfl
      | [_], e => exact absurd e.symm hn
      | _ :: _ :: _, _ => rfl
    rw [e]
    exact .tup vs cvs (by rw [h1, hl]) hr

/-- an object that was handed over, behind the call: h, its handle; v, what it holds -/
def RootAt (w' : World) (ok' rd : Nat → Prop) (M : List Obj) (al : Nat → Prop) (β' : Nat → Value) (h : Value) (v : V) : Prop :=
  (((∃ A n c, h = .slice A n c) ∨ ∃ r, h = .map r) ∧ RelV w' ok' rd β' (kds M) al v h) ∨
  ∃ b us T, h = .pointer (some ⟨b, 0, none⟩) ∧ RelL w' ok' rd β' (kds M) al v.cells us ∧ w'.heap[b]? = some (.cells us.toArray T (0, 0)) ∧ ¬ ok' b ∧ ∀ i, own M β' i ≠ some b

def PostM (X : Fr) (ds : List VD) (nr : Nat) (x : ElV ds) (v : Value) (w' : World) : Prop :=
  ∃ ok' cvs hs, Cvs (ds.length - nr) cvs v ∧ (nr = 0 ∨ X.gh = .tuple (List.toArray hs)) ∧ hs.length = nr ∧ ∀ id, ∃ β',
    Inv X [] (wrs [] (numbered id (packVs ds x id).2)) (fun i => id ≤ i ∧ i < id + ownCounts ds) #[] w' β' ok' ∧
    (∀ (j : Nat) v cv, (packVs ds x id).1[j]? = some v → cvs[j]? = some cv → RelV w' ok' X.rd β' (kds (wrs [] (numbered id (packVs ds x id).2))) (fun i => id ≤ i ∧ i < id + ownCounts ds) v cv) ∧
    ∀ (k : Nat) h v, hs[k]? = some h → (packVs ds x id).1[ds.length - nr + k]? = some v → RootAt w' ok' X.rd (wrs [] (numbered id (packVs ds x id).2)) (fun i => id ≤ i ∧ i < id + ownCounts ds) β' h v

def FnSpec (P : Program) (g : FuncId) (args : List V) (m : List Obj) (ρ : RD) (x : ρ.El) : Prop :=
  ∀ (X : Fr) (al : Nat → Prop) (us : Array Value) (β : Nat → Value) (ok : Nat → Prop), Inv X args m al us X.w0 β ok → (∀ j, m.length ≤ j → ¬ al j) →
    Calls P g us X.w0 fun e w' => ∃ v, e = .returned v ∧ PostM X ρ.vals ρ.roots x v w'

theorem packVs_len : ∀ (ds : List VD) (x : ElV ds) (n : Nat), (packVs ds x n).1.length = ds.length
  | [], _, _ => rfl
  | [_], _, _ => rfl
  | d :: e :: r, x, n => by simp only [packVs, List.length_cons, packVs_len (e :: r)]
theorem packVs_own : ∀ (ds : List VD) (x : ElV ds) (n j : Nat) (t : Ty), ds[j]? = some (.one (.own t)) → ∃ m xs, (packVs ds x n).1[j]? = some (.one (.osl m)) ∧ n ≤ m ∧ m < n + ownCounts ds ∧ (packVs ds x n).2[m - n]? = some (.row t xs)
  | [], _, _, j, t, h => by simp at h
  | [d], x, n, j, t, h => by
    cases j with
    | zero =>
      simp at h
      subst h
      exact ⟨n, x, rfl, Nat.le_refl _, by simp [ownCounts, ownCount, VD.rt], by simp [packVs, packVD, packRT]⟩
    | succ j => simp at h
  | d :: e :: r, x, n, j, t, h => by
    cases j with
    | zero =>
      simp at h
      subst h
      exact ⟨n, x.1, rfl, Nat.le_refl _, by simp [ownCounts, ownCount, VD.rt]; omega, by simp [packVs, packVD, packRT]⟩
    | succ j =>
      obtain ⟨m, xs, h1, h2, h3, h4⟩ := packVs_own (e :: r) x.2 (n + (packVD d x.1 n).2.length) j t (by simpa using h)
      have hc : (packVD d x.1 n).2.length = ownCount d.rt := by rw [packVD_obj, packRT_count]
      rw [hc] at h2 h3
      refine ⟨m, xs, ?_, by omega, by simp only [ownCounts] at h3 ⊢; omega, ?_⟩
      · simp only [packVs, List.getElem?_cons_succ]
        exact h1
      · simp only [packVs]
        rw [List.getElem?_append_right (by rw [hc]; omega), hc]
        rw [hc] at h4
        rwa [Nat.sub_sub]

theorem packVs_map : ∀ (ds : List VD) (x : ElV ds) (n j : Nat) (kt vt : Ty) (g b : Bool), ds[j]? = some (.one (.map kt vt g b)) → ∃ m es, (packVs ds x n).1[j]? = some (.one (.osl m)) ∧ n ≤ m ∧ m < n + ownCounts ds ∧ (packVs ds x n).2[m - n]? = some (.map kt vt g es b)
  | [], _, _, j, kt, vt, g, b, h => by simp at h
  | [d], x, n, j, kt, vt, g, b, h => by
    cases j with
    | zero =>
      simp at h
      subst h
      exact ⟨n, x, rfl, Nat.le_refl _, by simp [ownCounts, ownCount, VD.rt], by simp [packVs, packVD, packRT]⟩
    | succ j => simp at h
  | d :: e :: r, x, n, j, kt, vt, g, b, h => by
    cases j with
    | zero =>
      simp at h
      subst h
      exact ⟨n, x.1, rfl, Nat.le_refl _, by simp [ownCounts, ownCount, VD.rt]; omega, by simp [packVs, packVD, packRT]⟩
    | succ j =>
      obtain ⟨m, xs, h1, h2, h3, h4⟩ := packVs_map (e :: r) x.2 (n + (packVD d x.1 n).2.length) j kt vt g b (by simpa using h)
      have hc : (packVD d x.1 n).2.length = ownCount d.rt := by rw [packVD_obj, packRT_count]
      rw [hc] at h2 h3
      refine ⟨m, xs, ?_, by omega, by simp only [ownCounts] at h3 ⊢; omega, ?_⟩
      · simp only [packVs, List.getElem?_cons_succ]
        exact h1
      · simp only [packVs]
        rw [List.getElem?_append_right (by rw [hc]; omega), hc]
        rw [hc] at h4
        rwa [Nat.sub_sub]

theorem FnSpec.pure {P : Program} {g : FuncId} {args : List V} {ds : List VD} {x : ElV ds} (h : FnSpec P g args [] ⟨ds, 0⟩ x) : FnSpec0 P g args ds x := by
  intro w ok rd β us hok hrd hl ha
  have hI : Inv ⟨w, ok, fun _ => False, rd, undef⟩ args [] (fun _ => False) us w β ok := {
    size := hl
    env := fun t v ht => by
      have hlt : t < args.length := (List.getElem?_eq_some_iff.1 ht).1
      have hlt2 : t < us.size := by omega
      have e : us.getD t undef = us[t] := by rw [Array.getD_eq_getD_getElem?, Array.getElem?_eq_getElem hlt2]; rfl
      rw [e]
      exact ha t v _ ht (by simp [hlt2])
    obj := fun i => trivial
    len := fun i hi => absurd rfl hi
    inj := fun i j b h => by simp [ownB] at h
    apart := fun i b h => by simp [ownB] at h
    apartR := fun i b h => by simp [ownB] at h
    gh := fun i h => by cases h
    rdLt := hrd
    okLt := hok
    okOld := fun b hb _ => .inl hb
    ownOld := fun i b h => by simp [ownB] at h
    keep := fun _ _ _ => rfl
    grow := Nat.le_refl _
    os := rfl
    out := rfl
    tape := rfl }
  refine Calls.mono (h _ _ us β ok hI (fun _ _ h => h)) fun e w' he => ?_
  obtain ⟨v, rfl, ok', cvs, hs, h1, _, _, h2⟩ := he
  refine ⟨v, ok', rfl, fun id => ?_⟩
  obtain ⟨β', h3, h4, _⟩ := h2 id
  exact ⟨β', h3, h1.rel (packVs_len _ _ _) h4⟩

/-! ### new numbers -/
section
variable {w : World} {ok rd : Nat → Prop} {β : Nat → Value} {kd : Nat → KD} {al : Nat → Prop} {β' : Nat → Value} {kd' : Nat → KD} {al' : Nat → Prop}
theorem RelC.ren {g : Nat → Option Nat} (hg : ∀ i j, g i = some j → al i → al' j ∧ kd' j = kd i ∧ β' j = β i) : ∀ (d : Nat) (c : CV) (v : Value), RelC w ok rd β kd al c v → RelC w ok rd β' kd' al' (renC g d c) v := by
  intro d
  induction d with
  | zero => intro c v _; exact .undef v
  | succ d ih =>
    have ihl : ∀ (cs : List CV) (us : List Value), us.length = cs.length → (∀ (j : Nat) c u, cs[j]? = some c → us[j]? = some u → RelC w ok rd β kd al c u) →
        us.length = (cs.map (renC g d)).length ∧ ∀ (j : Nat) c u, (cs.map (renC g d))[j]? = some c → us[j]? = some u → RelC w ok rd β' kd' al' c u := by
      intro cs us hl hr
      refine ⟨by simp [hl], fun j c u hj hu => ?_⟩
      rw [List.getElem?_map] at hj
      cases hc : cs[j]? with
      | none => rw [hc] at hj; cases hj
      | some c0 =>
        rw [hc] at hj
        simp at hj
        subst hj
        exact ih c0 u (hr j c0 u hc hu)
    intro c v hv
    cases hv with
    | undef v => exact .undef v
    | bool b => exact .bool b
    | int k n => exact .int k n
    | str s => exact .str s
    | cst v h1 => exact .cst v h1
    | nils t => exact .nils t
    | slc t xs A c hc hr => exact .slc t xs A c hc hr
    | clp t xs A hr => exact .clp t xs A hr
    | nilp => exact .nilp
    | osl i v hi hp h1 =>
      show RelC _ _ _ _ _ _ (match g i with | some j => .osl j | none => .undef) v
      cases hgi : g i with
      | none => exact .undef v
      | some j =>
        obtain ⟨h2, h3, h4⟩ := hg i j hgi hi
        exact .osl j v h2 (fun hk => by rw [h4]; rw [h3] at hk; exact hp hk) h1
    | ovw i o n v hi hp h1 =>
      show RelC _ _ _ _ _ _ (match g i with | some j => .ovw j o n | none => .undef) v
      cases hgi : g i with
      | none => exact .undef v
      | some j =>
        obtain ⟨h2, h3, h4⟩ := hg i j hgi hi
        exact .ovw j o n v h2 (fun t hk => by rw [h4]; rw [h3] at hk; exact hp t hk) h1
    | ptr i o v hi hp h1 =>
      show RelC _ _ _ _ _ _ (match g i with | some j => .ptr j o | none => .undef) v
      cases hgi : g i with
      | none => exact .undef v
      | some j =>
        obtain ⟨h2, h3, h4⟩ := hg i j hgi hi
        exact .ptr j o v h2 (fun hk => by rw [h4]; rw [h3] at hk; exact hp hk) h1
    | eptr i k o v hi hp h1 =>
      show RelC _ _ _ _ _ _ (match g i with | some j => .eptr j k o | none => .undef) v
      cases hgi : g i with
      | none => exact .undef v
      | some j =>
        obtain ⟨h2, h3, h4⟩ := hg i j hgi hi
        exact .eptr j k o v h2 (fun t hk => by rw [h4]; rw [h3] at hk; exact hp t hk) h1
    | rptr cs b o us hb hl hu hr =>
      obtain ⟨h1, h2⟩ := ihl cs us hl hr
      exact .rptr _ b o us hb h1 hu h2
    | fn f cs us hl hr =>
      obtain ⟨h1, h2⟩ := ihl cs us hl hr
      exact .fn f _ us h1 h2
theorem RelL.ren {g : Nat → Option Nat} (hg : ∀ i j, g i = some j → al i → al' j ∧ kd' j = kd i ∧ β' j = β i) {cs : List CV} {us : List Value} (h : RelL w ok rd β kd al cs us) : RelL w ok rd β' kd' al' (renCs g cs) us := by
  obtain ⟨hl, hr⟩ := h
  refine ⟨by simp [renCs, hl], fun j c u hj hu => ?_⟩
  simp only [renCs, List.getElem?_map] at hj
  cases hc : cs[j]? with
  | none => rw [hc] at hj; cases hj
  | some c0 =>
    rw [hc] at hj
    simp at hj
    subst hj
    exact RelC.ren hg 6 c0 u (hr j c0 u hc hu)
theorem RelV.ren {g : Nat → Option Nat} (hg : ∀ i j, g i = some j → al i → al' j ∧ kd' j = kd i ∧ β' j = β i) {v : V} {u : Value} (h : RelV w ok rd β kd al v u) : RelV w ok rd β' kd' al' (renV g v) u := by
  cases h with
  | one c _ h => exact .one _ _ (RelC.ren hg 6 c u h)
  | agg cs us hl hr =>
    have := RelL.ren hg (show RelL w ok rd β kd al cs us from ⟨hl, hr⟩)
    exact .agg _ us this.1 this.2
  | tup vs us hl hr => exact .one _ _ (.undef _)
theorem ObjRel.ren {g : Nat → Option Nat} (hg : ∀ i j, g i = some j → al i → al' j ∧ kd' j = kd i ∧ β' j = β i) {i j : Nat} (hb : β' j = β i) {o : Obj} (h : ObjRel w ok rd β kd al i o) : ObjRel w ok rd β' kd' al' j (renO g o) := by
  cases o with
  | dead => trivial
  | cells cs =>
    obtain ⟨b, us, T, h1, h2, h3⟩ := h
    exact ⟨b, us, T, by rw [hb, h1], h2, h3.ren hg⟩
  | row t xs => obtain ⟨A, c, h1, h2⟩ := h; exact ⟨A, c, by rw [hb, h1], h2⟩
  | frz t xs => show RepE w ok (.slice t) xs [β' j]; rw [hb]; exact h
  | full t xs => obtain ⟨A, h1, h2⟩ := h; exact ⟨A, by rw [hb, h1], h2⟩
  | ghost cs =>
    obtain ⟨us, h1, h3⟩ := h
    exact ⟨us, by rw [hb, h1], h3.ren hg⟩
  | map kt vt g es t => obtain ⟨r, arr, clock, h1, h2, h3⟩ := h; exact ⟨r, arr, clock, by rw [hb, h1], h2, h3⟩
end

theorem posOf_spec : ∀ (l : List Nat) (i n j : Nat), posOf l i n = some j → n ≤ j ∧ l[j - n]? = some i
  | [], i, n, j, h => by cases h
  | a :: r, i, n, j, h => by
    unfold posOf at h
    cases hb : Nat.beq a i with
    | true =>
      rw [hb] at h
      simp at h
      subst h
      obtain rfl := Nat.eq_of_beq_eq_true hb
      simp
    | false =>
      rw [hb] at h
      obtain ⟨h1, h2⟩ := posOf_spec r i (n + 1) j h
      refine ⟨by omega, ?_⟩
      have : j - n = (j - (n + 1)) + 1 := by omega
      rw [this]
      simpa using h2
theorem hasNat_iff : ∀ {l : List Nat} {b : Nat}, hasNat l b = true ↔ b ∈ l
  | [], b => by simp [hasNat]
  | a :: r, b => by
    simp only [hasNat, Bool.or_eq_true, hasNat_iff (l := r), List.mem_cons]
    constructor
    · rintro (h | h)
      · exact .inl (Nat.eq_of_beq_eq_true h).symm
      · exact .inr h
    · rintro (h | h)
      · exact .inl (by rw [h]; exact Nat.beq_refl a)
      · exact .inr h

theorem renVs_get (g : Nat → Option Nat) : ∀ (vs : List V) (k : Nat), (renVs g vs)[k]? = (vs[k]?).map (renV g)
  | [], k => by simp [renVs]
  | i :: r, k => by
    cases k with
    | zero => simp [renVs]
    | succ k => simpa [renVs] using renVs_get g r k
theorem renVs_len (g : Nat → Option Nat) : ∀ (vs : List V), (renVs g vs).length = vs.length
  | [] => rfl
  | i :: r => by simp [renVs, renVs_len g r]
theorem renO_kd (g : Nat → Option Nat) (o : Obj) : (renO g o).kd = o.kd := by cases o <;> rfl


/-! ### what is handed over -/
theorem firsts_eq (l : List (Nat × Obj)) : firsts l = l.map (·.1) := by
  induction l with
  | nil => rfl
  | cons p r ih => obtain ⟨i, o⟩ := p; simp [firsts, ih]
theorem firsts_append (l r : List (Nat × Obj)) : firsts (l ++ r) = firsts l ++ firsts r := by simp [firsts_eq]
theorem CF_grab : ∀ (n : Nat) (l : List Nat) (acc : List (Nat × Obj)), (grab n l acc).CF
  | 0, _, _ => trivial
  | n + 1, [], acc => trivial
  | n + 1, i :: r, acc => CF_bif (CF_grab n r acc) fun o => CF_bif CF_fail (CF_grab n _ _)
theorem grab_spec {m : List Obj} : ∀ (n : Nat) (l : List Nat) (acc acc' : List (Nat × Obj)), (grab n l acc).run1 m = some acc' → (∀ p ∈ acc, p.2 = m.getD p.1 .dead ∧ isGhost p.2 = false) → (firsts acc).Nodup →
    (∀ p ∈ acc', p.2 = m.getD p.1 .dead ∧ isGhost p.2 = false) ∧ (firsts acc').Nodup
  | 0, _, _, _, h, _, _ => by cases h
  | n + 1, [], acc, acc', h, h1, h2 => by
    obtain rfl := ret_run1 h
    exact ⟨h1, h2⟩
  | n + 1, i :: r, acc, acc', h, h1, h2 => by
    unfold grab at h
    cases hb : hasNat (firsts acc) i with
    | true => rw [hb] at h; exact grab_spec n r acc acc' h h1 h2
    | false =>
      rw [hb] at h
      simp only [cond, Rd.run1_get] at h
      cases hg : isGhost (m.getD i .dead) with
      | true => rw [hg] at h; cases h
      | false =>
      rw [hg] at h
      refine grab_spec n _ (acc ++ [(i, m.getD i .dead)]) acc' h (fun p hp => ?_) ?_
      · rcases List.mem_append.1 hp with hp | hp
        · exact h1 p hp
        · simp at hp; subst hp; exact ⟨rfl, hg⟩
      · rw [firsts_append, List.nodup_append]
        refine ⟨h2, by simp [firsts], fun a ha b hb2 => ?_⟩
        simp [firsts] at hb2
        subst hb2
        rintro rfl
        rw [hasNat_iff.2 ha] at hb
        cases hb
theorem lookO_spec : ∀ (l : List (Nat × Obj)) (i : Nat), (i, lookO l i) ∈ l ∨ (lookO l i = .dead ∧ i ∉ firsts l)
  | [], i => .inr ⟨rfl, by simp [firsts]⟩
  | (j, o) :: r, i => by
    unfold lookO
    cases hb : Nat.beq j i with
    | true =>
      obtain rfl := Nat.eq_of_beq_eq_true hb
      exact .inl (by simp)
    | false =>
      simp only [cond]
      rcases lookO_spec r i with h | ⟨h1, h2⟩
      · exact .inl (by simp [h])
      · refine .inr ⟨h1, ?_⟩
        simp only [firsts, List.mem_cons, not_or]
        refine ⟨fun e => ?_, h2⟩
        subst e
        rw [Nat.beq_refl] at hb
        cases hb
theorem renPs_get (g : Nat → Option Nat) : ∀ (l : List (Nat × Obj)) (k : Nat), (renPs g l)[k]? = (l[k]?).map fun p => renO g p.2
  | [], k => by simp [renPs]
  | (i, o) :: r, k => by
    cases k with
    | zero => simp [renPs]
    | succ k => simpa [renPs] using renPs_get g r k
theorem renPs_len (g : Nat → Option Nat) : ∀ (l : List (Nat × Obj)), (renPs g l).length = l.length
  | [] => rfl
  | (_, _) :: r => by simp [renPs, renPs_len g r]

/-- a root: the number, the cell that leads there, the form -/
def RootOk (m : List Obj) (r : Nat × CV × VD) : Prop :=
  (r.2.1 = .ptr r.1 0 ∧ ∃ cs, m.getD r.1 .dead = .cells cs) ∨ (r.2.1 = .osl r.1 ∧ ((∃ t, r.2.2 = .one (.own t) ∧ ((∃ xs, m.getD r.1 .dead = .row t xs) ∨ ∃ xs, m.getD r.1 .dead = .full t xs)) ∨
    ∃ kt vt g b, r.2.2 = .one (.map kt vt g b) ∧ ∃ es, m.getD r.1 .dead = .map kt vt g es b))
theorem rootsOf_spec {m : List Obj} {mode : RefMode} {acc : List (Nat × Obj)} (ha : ∀ p ∈ acc, p.2 = m.getD p.1 .dead) : ∀ (l : List Nat) (rs : List (Nat × CV × VD)), rootsOf mode acc l = some rs →
    (∀ r ∈ rs, RootOk m r ∧ r.1 ∈ firsts acc ∧ r.1 ∈ l) ∧ (rs.map (·.1)).Nodup
  | [], rs, h => by
    simp [rootsOf] at h
    subst h
    simp
  | i :: q, rs, h => by
    unfold rootsOf at h
    cases hq : rootsOf mode acc q with
    | none => rw [hq] at h; cases h
    | some l =>
      rw [hq] at h
      simp only at h
      obtain ⟨h1, h2⟩ := rootsOf_spec ha q l hq
      have weak : ∀ r ∈ l, RootOk m r ∧ r.1 ∈ firsts acc ∧ r.1 ∈ i :: q := fun r hr => ⟨(h1 r hr).1, (h1 r hr).2.1, List.mem_cons_of_mem _ (h1 r hr).2.2⟩
      cases hb : hasNat q i with
      | true =>
        rw [hb] at h
        simp at h
        subst h
        exact ⟨weak, h2⟩
      | false =>
        rw [hb] at h
        simp only [cond] at h
        have hnew : ∀ r ∈ l, r.1 ≠ i := fun r hr e => by
          have := (h1 r hr).2.2
          rw [e] at this
          rw [hasNat_iff.2 this] at hb
          cases hb
        have hmem : ∀ o, lookO acc i = o → o ≠ .dead → m.getD i .dead = o ∧ i ∈ firsts acc := fun o ho hd => by
          rcases lookO_spec acc i with h | ⟨h, _⟩
          · have e : lookO acc i = m.getD i .dead := ha _ h
            exact ⟨by rw [← e, ho], by rw [firsts_eq]; exact List.mem_map.2 ⟨_, h, rfl⟩⟩
          · rw [h] at ho; exact absurd ho.symm hd
        have add : ∀ c d, RootOk m (i, c, d) → i ∈ firsts acc → (∀ r ∈ (i, c, d) :: l, RootOk m r ∧ r.1 ∈ firsts acc ∧ r.1 ∈ i :: q) ∧ (((i, c, d) :: l).map (·.1)).Nodup := fun c d hr hi => by
          refine ⟨fun r hr' => ?_, ?_⟩
          · rcases List.mem_cons.1 hr' with rfl | hr'
            · exact ⟨hr, hi, by simp⟩
            · exact weak r hr'
          · simp only [List.map_cons, List.nodup_cons]
            exact ⟨fun hi => by obtain ⟨r, h3, h4⟩ := List.mem_map.1 hi; exact hnew r h3 h4, h2⟩
        cases ho : lookO acc i with
        | dead => rw [ho] at h; simp at h; subst h; exact ⟨weak, h2⟩
        | frz t xs => rw [ho] at h; simp at h; subst h; exact ⟨weak, h2⟩
        | ghost cs => rw [ho] at h; simp at h; subst h; exact ⟨weak, h2⟩
        | cells cs =>
          obtain ⟨hm, hi⟩ := hmem _ ho (by simp)
          rw [ho] at h
          split at h
          · rename_i c _
            split at h
            · simp at h; subst h; exact add _ _ (.inl ⟨rfl, _, hm⟩) hi
            · cases h
          · split at h
            · simp at h; subst h; exact add _ _ (.inl ⟨rfl, _, hm⟩) hi
            · cases h
          all_goals first
            | (rename_i hx; cases hx; done)
            | (rename_i x1 x2 x3 x4 x5; exact absurd rfl (x2 _))
            | (rename_i x1 x2 x3 x4; exact absurd rfl (x1 _))
            | (rename_i x1 x2 x3; exact absurd rfl (x1 _))
        | row t xs =>
          obtain ⟨hm, hi⟩ := hmem _ ho (by simp)
          rw [ho] at h
          cases mode <;> simp at h <;> subst h
          · exact ⟨weak, h2⟩
          · exact add _ _ (.inr ⟨rfl, .inl ⟨t, rfl, .inl ⟨_, hm⟩⟩⟩) hi
          · exact ⟨weak, h2⟩
        | full t xs =>
          obtain ⟨hm, hi⟩ := hmem _ ho (by simp)
          rw [ho] at h
          cases mode <;> simp at h <;> subst h
          · exact ⟨weak, h2⟩
          · exact add _ _ (.inr ⟨rfl, .inl ⟨t, rfl, .inr ⟨_, hm⟩⟩⟩) hi
          · exact ⟨weak, h2⟩
        | map kt vt g es b =>
          obtain ⟨hm, hi⟩ := hmem _ ho (by simp)
          rw [ho] at h
          simp at h
          subst h
          exact add _ _ (.inr ⟨rfl, .inr ⟨kt, vt, g, b, rfl, _, hm⟩⟩) hi
theorem rootVDs_eq (rs : List (Nat × CV × VD)) : rootVDs rs = rs.map fun r => r.2.2 := by
  induction rs with
  | nil => rfl
  | cons r q ih => obtain ⟨a, b, c⟩ := r; simp [rootVDs, ih]
theorem rootCVs_eq (rs : List (Nat × CV × VD)) : rootCVs rs = rs.map fun r => r.2.1 := by
  induction rs with
  | nil => rfl
  | cons r q ih => obtain ⟨a, b, c⟩ := r; simp [rootCVs, ih]

def killKind : Obj → Bool
  | .cells _ => true
  | .row _ _ => true
  | .full _ _ => true
  | .map .. => true
  | _ => false
theorem killed_getD : ∀ (acc : List (Nat × Obj)) (m : List Obj) (i : Nat), (wrs m (killed acc)).getD i .dead = .dead ∧ (∃ p ∈ acc, p.1 = i ∧ killKind p.2 = true) ∨ (wrs m (killed acc)).getD i .dead = m.getD i .dead ∧ ∀ p ∈ acc, p.1 = i → killKind p.2 = false
  | [], m, i => .inr ⟨rfl, by simp⟩
  | (j, o) :: r, m, i => by
    have key : killKind o = true → killed ((j, o) :: r) = (j, .dead) :: killed r := fun h => by cases o <;> simp [killKind] at h <;> rfl
    have key2 : killKind o = false → killed ((j, o) :: r) = killed r := fun h => by cases o <;> simp [killKind] at h <;> rfl
    cases hk : killKind o with
    | true =>
      rw [key hk]
      simp only [wrs]
      rcases killed_getD r (wr m j .dead) i with ⟨h1, p, hp, h2, h3⟩ | ⟨h1, h2⟩
      · exact .inl ⟨h1, p, by simp [hp], h2, h3⟩
      · by_cases e : i = j
        · refine .inl ⟨?_, (j, o), by simp, e.symm, hk⟩
          rw [h1, wr_getD, if_pos e]
        · refine .inr ⟨by rw [h1, wr_getD, if_neg e], fun p hp hpi => ?_⟩
          rcases List.mem_cons.1 hp with rfl | hp
          · exact absurd hpi.symm e
          · exact h2 p hp hpi
    | false =>
      rw [key2 hk]
      rcases killed_getD r m i with ⟨h1, p, hp, h2, h3⟩ | ⟨h1, h2⟩
      · exact .inl ⟨h1, p, by simp [hp], h2, h3⟩
      · refine .inr ⟨h1, fun p hp hpi => ?_⟩
        rcases List.mem_cons.1 hp with rfl | hp
        · exact hk
        · exact h2 p hp hpi

/-- what lies where, behind the roots' writes -/
theorem rootWs_getD (os : List (Nat × Obj)) : ∀ (rs : List (Nat × CV × VD)) (vs : List V) (m : List Obj) (i : Nat),
    (∃ (k : Nat) (r : Nat × CV × VD) (v : V), rs[k]? = some r ∧ vs[k]? = some v ∧ i = r.1 ∧ ((∃ a b, r.2.1 = .ptr a b ∧ (wrs m (rootWs os rs vs)).getD i .dead = .cells v.cells) ∨ ∃ a n, r.2.1 = .osl a ∧ v = .one (.osl n) ∧ (wrs m (rootWs os rs vs)).getD i .dead = lookO os n)) ∨
    ((wrs m (rootWs os rs vs)).getD i .dead = .dead ∧ ∃ (k : Nat) (r : Nat × CV × VD) (a : Nat), rs[k]? = some r ∧ vs[k]? = some (.one (.osl i)) ∧ r.2.1 = .osl a) ∨
    ((wrs m (rootWs os rs vs)).getD i .dead = m.getD i .dead ∧ ∀ (k : Nat) (r : Nat × CV × VD) (a : Nat), rs[k]? = some r → vs[k]? = some (.one (.osl i)) → r.2.1 ≠ .osl a)
  | [], vs, m, i => by
    have e : rootWs os [] vs = [] := by unfold rootWs; rfl
    rw [e]
    exact .inr (.inr ⟨rfl, by simp⟩)
  | r0 :: rs, [], m, i => by
    have e : rootWs os (r0 :: rs) [] = [] := by
      obtain ⟨a, c, d⟩ := r0
      cases c <;> rfl
    rw [e]
    exact .inr (.inr ⟨rfl, by simp⟩)
  | r0 :: rs, v0 :: vs, m, i => by
    have lift : ∀ (m1 : List Obj) (L : List (Nat × Obj)), rootWs os (r0 :: rs) (v0 :: vs) = L ++ rootWs os rs vs → m1 = wrs m L →
        (m1.getD i .dead = m.getD i .dead ∧ (∀ a, v0 = .one (.osl i) → r0.2.1 ≠ .osl a) ∨ (m1.getD i .dead = .dead ∧ v0 = .one (.osl i) ∧ ∃ a, r0.2.1 = .osl a) ∨
          (i = r0.1 ∧ ((∃ a b, r0.2.1 = .ptr a b ∧ m1.getD i .dead = .cells v0.cells) ∨ ∃ a n, r0.2.1 = .osl a ∧ v0 = .one (.osl n) ∧ m1.getD i .dead = lookO os n) ∧ ∀ a, v0 = .one (.osl i) → r0.2.1 ≠ .osl a)) →
        (∃ (k : Nat) (r : Nat × CV × VD) (v : V), (r0 :: rs)[k]? = some r ∧ (v0 :: vs)[k]? = some v ∧ i = r.1 ∧ ((∃ a b, r.2.1 = .ptr a b ∧ (wrs m (rootWs os (r0 :: rs) (v0 :: vs))).getD i .dead = .cells v.cells) ∨ ∃ a n, r.2.1 = .osl a ∧ v = .one (.osl n) ∧ (wrs m (rootWs os (r0 :: rs) (v0 :: vs))).getD i .dead = lookO os n)) ∨
        ((wrs m (rootWs os (r0 :: rs) (v0 :: vs))).getD i .dead = .dead ∧ ∃ (k : Nat) (r : Nat × CV × VD) (a : Nat), (r0 :: rs)[k]? = some r ∧ (v0 :: vs)[k]? = some (.one (.osl i)) ∧ r.2.1 = .osl a) ∨
        ((wrs m (rootWs os (r0 :: rs) (v0 :: vs))).getD i .dead = m.getD i .dead ∧ ∀ (k : Nat) (r : Nat × CV × VD) (a : Nat), (r0 :: rs)[k]? = some r → (v0 :: vs)[k]? = some (.one (.osl i)) → r.2.1 ≠ .osl a) := by
      intro m1 L hL hm1 hcase
      have e : wrs m (rootWs os (r0 :: rs) (v0 :: vs)) = wrs m1 (rootWs os rs vs) := by rw [hL, wrs_append, hm1]
      rw [e]
      rcases rootWs_getD os rs vs m1 i with ⟨k, r, v, h1, h2, h3, h4⟩ | ⟨h1, k, r, a, h2, h3, h4⟩ | ⟨h1, h2⟩
      · exact .inl ⟨k + 1, r, v, by simpa using h1, by simpa using h2, h3, h4⟩
      · exact .inr (.inl ⟨h1, k + 1, r, a, by simpa using h2, by simpa using h3, h4⟩)
      · have tail : (∀ a, v0 = .one (.osl i) → r0.2.1 ≠ .osl a) → ∀ (k : Nat) (r : Nat × CV × VD) (a : Nat), (r0 :: rs)[k]? = some r → (v0 :: vs)[k]? = some (.one (.osl i)) → r.2.1 ≠ .osl a := fun h0 k r a hr hv => by
          cases k with
          | zero => simp at hr hv; subst hr; exact h0 a hv
          | succ k => exact h2 k r a (by simpa using hr) (by simpa using hv)
        rcases hcase with ⟨h3, h4⟩ | ⟨h3, h4, a, h5⟩ | ⟨h3, h4, h5⟩
        · exact .inr (.inr ⟨by rw [h1, h3], tail h4⟩)
        · exact .inr (.inl ⟨by rw [h1, h3], 0, r0, a, rfl, by rw [h4]; rfl, h5⟩)
        · refine .inl ⟨0, r0, v0, rfl, rfl, h3, ?_⟩
          rw [h1]
          exact h4
    obtain ⟨a0, c0, d0⟩ := r0
    have skip : rootWs os ((a0, c0, d0) :: rs) (v0 :: vs) = rootWs os rs vs → (∀ a, v0 = .one (.osl i) → c0 ≠ .osl a) → _ := fun h1 h2 => lift m [] h1 rfl (.inl ⟨rfl, h2⟩)
    cases c0 with
    | ptr a b =>
      refine lift (wr m a0 (.cells v0.cells)) [(a0, .cells v0.cells)] rfl rfl ?_
      by_cases e : i = a0
      · refine .inr (.inr ⟨e, .inl ⟨a, b, rfl, by rw [wr_getD, if_pos e]⟩, fun _ _ h => by cases h⟩)
      · refine .inl ⟨by rw [wr_getD, if_neg e], fun _ _ h => by cases h⟩
    | osl a =>
      have hcases : (∃ n, v0 = .one (.osl n)) ∨ ((∀ n, v0 ≠ .one (.osl n)) ∧ rootWs os ((a0, .osl a, d0) :: rs) (v0 :: vs) = rootWs os rs vs) := by
        cases v0 with
        | one c => cases c <;> first | exact .inl ⟨_, rfl⟩ | exact .inr ⟨fun n h => (by cases h), rfl⟩
        | agg cs => exact .inr ⟨fun n h => (by cases h), rfl⟩
        | tup cs => exact .inr ⟨fun n h => (by cases h), rfl⟩
      rcases hcases with ⟨n, rfl⟩ | ⟨h1, h2⟩
      · refine lift (wr (wr m a0 (lookO os n)) n .dead) [(a0, lookO os n), (n, .dead)] rfl rfl ?_
        by_cases e1 : i = n
        · exact .inr (.inl ⟨by rw [wr_getD, if_pos e1], by rw [e1], a, rfl⟩)
        · have hne : ∀ a', V.one (.osl n) = .one (.osl i) → (CV.osl a : CV) ≠ .osl a' := fun a' h => by simp at h; exact absurd h.symm e1
          by_cases e2 : i = a0
          · exact .inr (.inr ⟨e2, .inr ⟨a, n, rfl, rfl, by rw [wr_getD, if_neg e1, wr_getD, if_pos e2]⟩, hne⟩)
          · exact .inl ⟨by rw [wr_getD, if_neg e1, wr_getD, if_neg e2], hne⟩
      · exact skip h2 fun a' h => absurd h (h1 i)
    | _ => exact skip rfl fun _ _ h => by cases h
theorem lookO_numbered : ∀ (os : List Obj) (id n : Nat), id ≤ n → n < id + os.length → lookO (numbered id os) n = os.getD (n - id) .dead
  | [], id, n, h1, h2 => by simp at h2; omega
  | o :: r, id, n, h1, h2 => by
    unfold numbered lookO
    cases hb : Nat.beq id n with
    | true =>
      obtain rfl := Nat.eq_of_beq_eq_true hb
      simp
    | false =>
      have hne : id ≠ n := fun e => by rw [e, Nat.beq_refl] at hb; cases hb
      simp only [cond]
      rw [lookO_numbered r (id + 1) n (by omega) (by simp at h2; omega)]
      have : n - id = (n - (id + 1)) + 1 := by omega
      rw [this]
      rfl
end Go.Sk
