/- Calls of functions: results. -/
import Derived.Test.YtgamdchlgikaiaaSkQ
set_option linter.unusedSimpArgs false
set_option linter.unusedVariables false
set_option linter.unusedSectionVars false
namespace Go.Sk
open Go

theorem numbered_getD : ∀ (os : List Obj) (n : Nat) (m : List Obj) (i : Nat), (wrs m (numbered n os)).getD i .dead = if n ≤ i ∧ i < n + os.length then os.getD (i - n) .dead else m.getD i .dead
  | [], n, m, i => by simp [numbered, wrs]; omega
  | o :: r, n, m, i => by
    simp only [numbered, wrs]
    rw [numbered_getD r (n + 1) (wr m n o) i, wr_getD]
    by_cases h1 : n + 1 ≤ i ∧ i < n + 1 + r.length
    · rw [if_pos h1, if_pos (by simp; omega)]
      have : i - n = (i - (n + 1)) + 1 := by omega
      rw [this]; rfl
    · rw [if_neg h1]
      by_cases h2 : i = n
      · subst h2
        rw [if_pos rfl, if_pos (by simp)]
        simp
      · rw [if_neg h2, if_neg (by simp; omega)]

/-! ### cells that stand for themselves -/
def CV.plain : CV → Prop
  | .undef | .bool _ | .int _ _ | .str _ | .slc _ _ | .osl _ => True
  | _ => False
def CV.scal : CV → Prop
  | .undef | .bool _ | .int _ _ | .str _ => True
  | _ => False
def V.all1 (p : CV → Prop) : V → Prop
  | .one c => p c
  | .agg cs => ∀ c ∈ cs, p c
  | .tup _ => False
def V.allV (p : CV → Prop) : V → Prop
  | .tup vs => ∀ v ∈ vs, V.all1 p v
  | v => V.all1 p v

section
variable {w : World} {ok rd : Nat → Prop} {β : Nat → Value} {kd : Nat → KD} {al : Nat → Prop} {w' : World} {ok' rd' : Nat → Prop} {β' : Nat → Value} {kd' : Nat → KD} {al' : Nat → Prop}
theorem RelL.mapP {p : CV → Prop} (f : ∀ c v, p c → RelC w ok rd β kd al c v → RelC w' ok' rd' β' kd' al' c v) {cs : List CV} {us : List Value} (hp : ∀ c ∈ cs, p c) (h : RelL w ok rd β kd al cs us) : RelL w' ok' rd' β' kd' al' cs us :=
  ⟨h.1, fun j c u hj hu => f c u (hp c (List.mem_of_getElem? hj)) (h.2 j c u hj hu)⟩
theorem RelV.map1 {p : CV → Prop} (f : ∀ c v, p c → RelC w ok rd β kd al c v → RelC w' ok' rd' β' kd' al' c v) {v : V} {cv : Value} (hp : v.all1 p) (h : RelV w ok rd β kd al v cv) : RelV w' ok' rd' β' kd' al' v cv := by
  cases h with
  | one c v h => exact .one _ _ (f _ _ hp h)
  | agg cs us hl h => exact .agg cs us hl (RelL.mapP f hp ⟨hl, h⟩).2
  | tup vs us hl h => exact hp.elim
theorem RelV.mapP {p : CV → Prop} (f : ∀ c v, p c → RelC w ok rd β kd al c v → RelC w' ok' rd' β' kd' al' c v) {v : V} {cv : Value} (hp : v.allV p) (h : RelV w ok rd β kd al v cv) : RelV w' ok' rd' β' kd' al' v cv := by
  cases h with
  | one c v h => exact .one _ _ (f _ _ hp h)
  | agg cs us hl h => exact .agg cs us hl (RelL.mapP f hp ⟨hl, h⟩).2
  | tup vs us hl h => exact .tup vs us hl fun j v u hj hu => (h j v u hj hu).map1 f (hp v (List.mem_of_getElem? hj))
theorem RelC.scal {c : CV} {v : Value} (hp : c.scal) (h : RelC w ok rd β kd al c v) : RelC w' ok' rd' β' kd' al' c v := by
  cases h <;> first | exact hp.elim | constructor
end

/-! ### results as they are packed -/
def RT.noKeep : RT → Prop
  | .keep _ => False
  | .cat a b => a.noKeep ∧ b.noKeep
  | _ => True
theorem enc_plain : ∀ (t : Ty) (x : El t), ∀ c ∈ enc t x, c.plain
  | .bool, _, c, h => by simp [enc] at h; subst h; trivial
  | .int _, _, c, h => by simp [enc] at h; subst h; trivial
  | .str, _, c, h => by simp [enc] at h; subst h; trivial
  | .unit, _, c, h => by simp [enc] at h
  | .pair a b, x, c, h => by
    simp only [enc, List.mem_append] at h
    exact h.elim (enc_plain a x.1 c) (enc_plain b x.2 c)
  | .slice _, _, c, h => by simp [enc] at h; subst h; trivial
theorem enc_scal : ∀ (t : Ty) (x : El t), isFlat t = true → ∀ c ∈ enc t x, c.scal
  | .bool, _, _, c, h => by simp [enc] at h; subst h; trivial
  | .int _, _, _, c, h => by simp [enc] at h; subst h; trivial
  | .str, _, _, c, h => by simp [enc] at h; subst h; trivial
  | .unit, _, _, c, h => by simp [enc] at h
  | .pair a b, x, hf, c, h => by
    simp only [enc, List.mem_append] at h
    simp only [isFlat, Bool.and_eq_true] at hf
    exact h.elim (enc_scal a x.1 hf.1 c) (enc_scal b x.2 hf.2 c)
  | .slice _, _, hf, c, h => by simp [isFlat] at hf

theorem packRT_plain : ∀ (r : RT) (x : r.El) (n : Nat), r.noKeep → ∀ c ∈ (packRT r x n).1, c.plain
  | .ty t, x, n, _, c, h => enc_plain t x c h
  | .own t, x, n, _, c, h => by simp [packRT] at h; subst h; trivial
  | .cat a b, x, n, hk, c, h => by
    simp only [packRT, List.mem_append] at h
    exact h.elim (packRT_plain a x.1 n hk.1 c) (packRT_plain b x.2 _ hk.2 c)
  | .nothing, _, _, _, c, h => by simp [packRT] at h
  | .keep _, _, _, hk, _, _ => hk.elim
  | .map .., x, n, _, c, h => by simp [packRT] at h; subst h; trivial
theorem packRT_count : ∀ (r : RT) (x : r.El) (n : Nat), (packRT r x n).2.length = ownCount r
  | .ty t, x, n => rfl
  | .own t, x, n => rfl
  | .cat a b, x, n => by simp [packRT, ownCount, packRT_count a, packRT_count b]
  | .nothing, _, _ => rfl
  | .keep _, _, _ => rfl
  | .map .., _, _ => rfl
/-- an object that is handed back -/
def Owned (o : Obj) : Prop := (∃ t xs, o = .row t xs) ∨ ∃ kt vt g es b, o = .map kt vt g es b
theorem Owned.notGhost {o : Obj} (h : Owned o) : o.kd ≠ .ghost := by rcases h with ⟨t, xs, rfl⟩ | ⟨kt, vt, g, es, b, rfl⟩ <;> simp [Obj.kd]
theorem Owned.some {o : Obj} (h : Owned o) : o.kd ≠ .none := by rcases h with ⟨t, xs, rfl⟩ | ⟨kt, vt, g, es, b, rfl⟩ <;> simp [Obj.kd]
theorem Owned.move {o : Obj} (h : Owned o) {w : World} {ok rd : Nat → Prop} {β : Nat → Value} {kd : Nat → KD} {al : Nat → Prop} {ok' rd' : Nat → Prop} {β' : Nat → Value} {kd' : Nat → KD} {al' : Nat → Prop} {i j : Nat}
    (ho : ObjRel w ok rd β kd al i o) (hb : β' j = β i) (hk : ∀ b, ok b → ok' b) : ObjRel w ok' rd' β' kd' al' j o := by
  rcases h with ⟨t, xs, rfl⟩ | ⟨kt, vt, g, es, t, rfl⟩
  · obtain ⟨A, c, e, hob⟩ := ho
    refine ⟨A, c, by rw [hb, e], ?_⟩
    rcases hob with h | ⟨b, o, arr, T, e, hh, h0, hle, hsz, hrows⟩
    · exact .inl h
    · exact .inr ⟨b, o, arr, T, e, hh, h0, hle, hsz, hrows.mono (fun _ _ => rfl) hk⟩
  · obtain ⟨r, arr, clock, e, hh, hm⟩ := ho
    exact ⟨r, arr, clock, by rw [hb, e], hh, hm.mono (fun _ _ => rfl) hk⟩
theorem packRT_rows : ∀ (r : RT) (x : r.El) (n : Nat), ∀ o ∈ (packRT r x n).2, Owned o
  | .ty t, x, n, o, h => by simp [packRT] at h
  | .own t, x, n, o, h => by simp [packRT] at h; exact .inl ⟨t, x, h⟩
  | .map kt vt g b, x, n, o, h => by simp [packRT] at h; exact .inr ⟨kt, vt, g, x, b, h⟩
  | .cat a b, x, n, o, h => by
    simp only [packRT, List.mem_append] at h
    exact h.elim (packRT_rows a x.1 n o) (packRT_rows b x.2 _ o)
  | .nothing, _, _, o, h => by simp [packRT] at h
  | .keep _, _, _, o, h => by simp [packRT] at h
theorem packRT_flat : ∀ (r : RT) (x : r.El) (n : Nat), r.flat = true → (packRT r x n).2 = [] ∧ ∀ c ∈ (packRT r x n).1, c.scal
  | .ty t, x, n, hf => ⟨rfl, enc_scal t x hf⟩
  | .own t, x, n, hf => by cases hf
  | .cat a b, x, n, hf => by
    simp only [RT.flat, Bool.and_eq_true] at hf
    obtain ⟨h1, h2⟩ := packRT_flat a x.1 n hf.1
    have h3 := packRT_flat b x.2 (n + (packRT a x.1 n).2.length) hf.2
    refine ⟨by simp [packRT, h1] at h3 ⊢; exact h3.1, fun c h => ?_⟩
    simp only [packRT, List.mem_append] at h
    exact h.elim (h2 c) (h3.2 c)
  | .nothing, _, _, _ => ⟨rfl, fun c h => by simp [packRT] at h⟩
  | .keep _, _, _, hf => by cases hf
  | .map .., _, _, hf => by cases hf

theorem packVD_obj (d : VD) (x : d.rt.El) (n : Nat) : (packVD d x n).2 = (packRT d.rt x n).2 := by
  cases d with
  | one r => unfold packVD; simp only [VD.rt]; split <;> simp_all
  | agg r => rfl
theorem packVD_all {p : CV → Prop} (hu : p .undef) (d : VD) (x : d.rt.El) (n : Nat) (h : ∀ c ∈ (packRT d.rt x n).1, p c) : (packVD d x n).1.all1 p := by
  cases d with
  | one r =>
    have h' : ∀ c ∈ (packRT r x n).1, p c := h
    show V.all1 p (match packRT r x n with | ([c], o) => (V.one c, o) | (_, o) => (uv, o)).1
    generalize packRT r x n = q at h'
    obtain ⟨l, o⟩ := q
    match l, h' with
    | [c], h' => exact h' c (by simp)
    | [], _ => exact hu
    | _ :: _ :: _, _ => exact hu
  | agg r => exact h
theorem packVs_count : ∀ (ds : List VD) (x : ElV ds) (n : Nat), (packVs ds x n).2.length = ownCounts ds
  | [], _, _ => rfl
  | [d], x, n => by simp [packVs, ownCounts, packVD_obj, packRT_count]
  | d :: e :: r, x, n => by
    have := packVs_count (e :: r) x.2 (n + (packVD d x.1 n).2.length)
    simp only [packVs, List.length_append, this]
    rw [packVD_obj, packRT_count]
    rfl
theorem packVs_rows : ∀ (ds : List VD) (x : ElV ds) (n : Nat), ∀ o ∈ (packVs ds x n).2, Owned o
  | [], _, _, o, h => by simp [packVs] at h
  | [d], x, n, o, h => by
    simp only [packVs, packVD_obj] at h
    exact packRT_rows _ _ _ o h
  | d :: e :: r, x, n, o, h => by
    simp only [packVs, List.mem_append] at h
    rcases h with h | h
    · rw [packVD_obj] at h; exact packRT_rows _ _ _ o h
    · exact packVs_rows (e :: r) x.2 _ o h
theorem packVs_all {p : CV → Prop} (hu : p .undef) : ∀ (ds : List VD) (x : ElV ds) (n : Nat), (∀ d ∈ ds, ∀ (y : d.rt.El) (k : Nat), ∀ c ∈ (packRT d.rt y k).1, p c) → ∀ v ∈ (packVs ds x n).1, v.all1 p
  | [], _, _, _, v, hv => by simp [packVs] at hv
  | [d], x, n, h, v, hv => by
    simp [packVs] at hv
    subst hv
    exact packVD_all hu d x n (h d (by simp) _ _)
  | d :: e :: r, x, n, h, v, hv => by
    simp only [packVs, List.mem_cons] at hv
    rcases hv with rfl | hv
    · exact packVD_all hu d x.1 n (h d (by simp) _ _)
    · exact packVs_all hu (e :: r) x.2 _ (fun d hd => h d (by simp at hd ⊢; exact .inr hd)) v hv
theorem tupV_all {p : CV → Prop} {vs : List V} (h : ∀ v ∈ vs, v.all1 p) : (tupV vs).allV p := by
  unfold tupV
  split
  · rename_i v
    have := h v (by simp)
    cases v <;> first | exact this | exact this.elim
  · exact h
theorem packVs_flat : ∀ (ds : List VD) (x : ElV ds) (n : Nat), flatVals ds = true → (packVs ds x n).2 = [] ∧ (tupV (packVs ds x n).1).allV CV.scal := by
  have hf : ∀ (ds : List VD), flatVals ds = true → ∀ d ∈ ds, d.rt.flat = true := by
    intro ds
    induction ds with
    | nil => intro _ d h; simp at h
    | cons e r ih =>
      intro h d hd
      simp only [flatVals, Bool.and_eq_true] at h
      rcases List.mem_cons.1 hd with rfl | hd
      · exact h.1
      · exact ih h.2 d hd
  intro ds x n h
  refine ⟨?_, tupV_all (packVs_all trivial ds x n fun d hd y k => (packRT_flat _ y k (hf ds h d hd)).2)⟩
  have key : ∀ (ds : List VD) (x : ElV ds) (n : Nat), (∀ d ∈ ds, d.rt.flat = true) → (packVs ds x n).2 = [] := by
    intro ds
    induction ds with
    | nil => intro _ _ _; rfl
    | cons d r ih =>
      intro x n h
      cases r with
      | nil => simp only [packVs, packVD_obj]; exact (packRT_flat _ _ _ (h d (by simp))).1
      | cons e r =>
        simp only [packVs]
        rw [packVD_obj, (packRT_flat _ _ _ (h d (by simp))).1, ih _ _ fun d hd => h d (by simp at hd ⊢; exact .inr hd)]
        rfl
  exact key ds x n (hf ds h)

theorem rtCells_noKeep : ∀ (own : Bool) (l : List (Option Ty)) (r : RT), rtCells own l = some r → r.noKeep
  | _, [], r, h => by simp [rtCells] at h; subst h; trivial
  | own, some t :: l, r, h => by
    simp only [rtCells] at h
    split at h
    · rename_i q hq
      simp at h
      subst h
      refine ⟨?_, rtCells_noKeep own l q hq⟩
      split <;> trivial
    · cases h
  | _, none :: _, r, h => by cases h
theorem rtOf_noKeep {P : Program} {own : Bool} {t : TypeId} {d : VD} (h : rtOf P own t = some d) : d.rt.noKeep := by
  unfold rtOf at h
  split at h
  · split at h
    · cases ht : tyAt P t with
      | none => rw [ht] at h; cases h
      | some c => rw [ht] at h; simp at h; subst h; trivial
    · split at h
      · split at h
        · simp at h; subst h; trivial
        · cases hc : rtCells true (cellTys P 12 t) with
          | none => rw [hc] at h; cases h
          | some q => rw [hc] at h; simp at h; subst h; exact rtCells_noKeep _ _ q hc
      · cases h
  · split at h
    · simp at h; subst h; trivial
    · simp at h; subst h; trivial
    · cases h
  · cases h
theorem rtsOf_noKeep {P : Program} {own : Bool} : ∀ (ts : List TypeId) (ds : List VD), rtsOf P own ts = some ds → ∀ d ∈ ds, d.rt.noKeep
  | [], ds, h, d, hd => by simp [rtsOf] at h; subst h; simp at hd
  | t :: r, ds, h, d, hd => by
    simp only [rtsOf] at h
    split at h
    · rename_i e es h1 h2
      simp at h
      subst h
      rcases List.mem_cons.1 hd with rfl | hd
      · exact rtOf_noKeep h1
      · exact rtsOf_noKeep r es h2 d hd
    · cases h

/-! ### what a function is to do -/
def FnSpec0 (P : Program) (g : FuncId) (args : List V) (ds : List VD) (x : ElV ds) : Prop :=
  ∀ (w : World) (ok rd : Nat → Prop) (β : Nat → Value) (us : Array Value), (∀ b, ok b → b < w.heap.size) → (∀ b, rd b → b < w.heap.size) → us.size = args.length →
    (∀ (j : Nat) v u, args[j]? = some v → us.toList[j]? = some u → RelV w ok rd β noKd noAl v u) →
    Calls P g us w fun e w' => ∃ v ok', e = .returned v ∧ ∀ id, ∃ β',
      Inv ⟨w, ok, fun _ => False, rd, undef⟩ [] (wrs [] (numbered id (packVs ds x id).2)) (fun i => id ≤ i ∧ i < id + ownCounts ds) #[] w' β' ok' ∧
      RelV w' ok' rd β' (kds (wrs [] (numbered id (packVs ds x id).2))) (fun i => id ≤ i ∧ i < id + ownCounts ds) (tupV (packVs ds x id).1) v

section
variable {P : Program} {X : Fr} {env : List V} {mem : List Obj} {al : Nat → Prop} {tmps : Array Value} {w : World} {β : Nat → Value} {ok : Nat → Prop}

theorem row_rep {rd : Nat → Prop} {kd : Nat → KD} {okx : Nat → Prop} {i : Nat} {t : Ty} {xs : List (El t)} (h : ObjRel w ok rd β kd al i (.row t xs)) (hok : ∀ b, ok b → okx b) (ho : ∀ b, ownB (.row t xs) (β i) = some b → okx b) : RepE w okx (.slice t) xs [β i] := by
  obtain ⟨A, c, hb, h⟩ := h
  rcases h with ⟨rfl, rfl⟩ | ⟨b, o, arr, T, rfl, hh, h0, hle, hsz, hrows⟩
  · exact ⟨A, 0, by rw [hb], Nat.le_refl _, .inl rfl⟩
  · refine ⟨_, c, by rw [hb], hle, .inr ⟨b, o, rfl, ho b (by rw [hb]; simp [ownB]; omega), fun k x hk => ?_⟩⟩
    obtain ⟨us, h1, h2, h3⟩ := hrows k x hk
    exact ⟨us, h1, RepE.mono (fun _ _ => rfl) hok h2, fun j u hj => by simp [World.cell?, hh, h3 j u hj]⟩

/-- the results, where nothing of them is data in memory -/
theorem flat_back (h : Inv X env mem al tmps w β ok) {okx rdx : Nat → Prop} {mem2 : List Obj} {al2 : Nat → Prop} {w' : World} {β2 : Nat → Value} {ok2 : Nat → Prop} (h2 : Inv ⟨w, okx, fun _ => False, rdx, undef⟩ [] mem2 al2 #[] w' β2 ok2)
    {v : V} {cv : Value} {kd : Nat → KD} (hp : v.allV CV.scal) (hv : RelV w' ok2 rdx β2 kd al2 v cv) {new : Nat → Prop} :
    Inv X env mem (fun i => al i ∨ new i) tmps w' β ok ∧ RelV w' ok X.rd β (kds mem) (fun i => al i ∨ new i) v cv := by
  have key := h.update (mem' := mem) (al' := fun i => al i ∨ new i) (β' := β) (ok' := ok) (w' := w') (fun _ => False) (fun _ h => .inl h) (fun _ h => h.elim) (fun _ _ => rfl) (fun _ _ => rfl) (fun _ h => h.elim) (fun _ h => h.elim) (fun b hb _ => h2.keep b hb (fun h => h)) h2.grow
    (fun _ h => h) (fun _ h => .inl h) (fun _ _ h => h.elim) (fun _ _ h => h.elim) (fun _ _ _ h => h.elim) (fun _ _ h => h.elim) h2.os h2.out h2.tape
  exact ⟨key.2, hv.mapP (fun c v hc h => h.scal hc) hp⟩

/-- the results, otherwise -/
theorem rows_back (h : Inv X env mem al tmps w β ok) {rdx : Nat → Prop} {id : Nat} {os : List Obj} (hid : ∀ j, id ≤ j → j < id + os.length → ¬ al j) (hos : ∀ o ∈ os, Owned o) {w' : World} {β2 : Nat → Value} {ok2 : Nat → Prop}
    (h2 : Inv ⟨w, ok, fun _ => False, rdx, undef⟩ [] (wrs [] (numbered id os)) (fun i => id ≤ i ∧ i < id + os.length) #[] w' β2 ok2)
    {v : V} {cv : Value} (hp : v.allV CV.plain) (hv : RelV w' ok2 rdx β2 (kds (wrs [] (numbered id os))) (fun i => id ≤ i ∧ i < id + os.length) v cv) :
    ∃ β' ok', Inv X env (wrs mem (numbered id os)) (fun i => al i ∨ (id ≤ i ∧ i < id + os.length)) tmps w' β' ok' ∧ RelV w' ok' X.rd β' (kds (wrs mem (numbered id os))) (fun i => al i ∨ (id ≤ i ∧ i < id + os.length)) v cv := by
  let S : Nat → Prop := fun i => id ≤ i ∧ i < id + os.length
  have hdec : ∀ i, S i ∨ ¬ S i := fun i => Classical.em _
  let β' : Nat → Value := fun i => if id ≤ i ∧ i < id + os.length then β2 i else β i
  have hβS : ∀ i, S i → β' i = β2 i := fun i hi => if_pos hi
  have hβn : ∀ i, ¬ S i → β' i = β i := fun i hi => if_neg hi
  have hmS : ∀ (m : List Obj) i, S i → (wrs m (numbered id os)).getD i .dead = os.getD (i - id) .dead := fun m i hi => by rw [numbered_getD, if_pos hi]
  have hmn : ∀ (m : List Obj) i, ¬ S i → (wrs m (numbered id os)).getD i .dead = m.getD i .dead := fun m i hi => by rw [numbered_getD, if_neg hi]
  have hrow : ∀ i, S i → Owned (os.getD (i - id) .dead) := fun i hi => by
    have hlt : i - id < os.length := by have := hi.1; have := hi.2; omega
    rw [List.getD_eq_getElem?_getD, List.getElem?_eq_getElem hlt]
    exact hos _ (List.getElem_mem hlt)
  have hownS : ∀ i, S i → own (wrs mem (numbered id os)) β' i = own (wrs [] (numbered id os)) β2 i := fun i hi => by unfold own; rw [hmS mem i hi, hmS [] i hi, hβS i hi]
  have hnewb : ∀ i b, own (wrs [] (numbered id os)) β2 i = some b → w.heap.size ≤ b := fun i b hb => by
    rcases Nat.lt_or_ge b w.heap.size with hlt | hge
    · exact (h2.ownOld i b hb hlt).elim
    · exact hge
  have ext2 : Ext w' ok2 rdx β2 (kds (wrs [] (numbered id os))) S w' (fun b => ok b ∨ ok2 b) β' (kds (wrs mem (numbered id os))) (fun i => al i ∨ S i) :=
    ⟨fun _ _ => rfl, fun _ _ => rfl, fun _ h => .inr h, fun i hi => .inl (by show ((wrs mem (numbered id os)).getD i .dead).kd = ((wrs [] (numbered id os)).getD i .dead).kd; rw [hmS mem i hi, hmS [] i hi]), fun i hi _ => hβS i hi, fun i hi => .inr hi⟩
  have key := h.update (mem' := wrs mem (numbered id os)) (al' := fun i => al i ∨ S i) (β' := β') (ok' := fun b => ok b ∨ ok2 b) (w' := w') S (fun _ h => .inl h) (fun _ h _ => .inr h) (fun i hi => hmn mem i hi) hβn
    (fun i hi ha => absurd ha (hid i hi.1 hi.2)) (fun i hi hg => by
      have hg : ((wrs mem (numbered id os)).getD i .dead).kd = .ghost := hg
      rw [hmS mem i hi] at hg
      exact absurd hg (hrow i hi).notGhost) (fun b hb _ => h2.keep b hb (fun h => h)) h2.grow (fun _ h => .inl h)
    (fun b hb => by
      rcases hb with hb | hb
      · exact .inl hb
      · rcases Nat.lt_or_ge b w.heap.size with hlt | hge
        · rcases h2.okOld b hb hlt with h | h
          · exact .inl h
          · exact h.elim
        · exact .inr (.inr ⟨hge, h2.okLt b hb⟩))
    (fun _ i hi => by
      have hob := h2.obj i
      rw [hmS [] i hi] at hob
      rw [hmS mem i hi]
      exact (hrow i hi).move hob (hβS i hi) fun _ h => .inr h)
    (fun i b hi hb => .inr (hnewb i b (by rw [← hownS i hi]; exact hb)))
    (fun i j b hi hj h1 h3 => h2.inj i j b (by have := hownS i hi; unfold own at this; rw [← this]; exact h1) (by have := hownS j hj; unfold own at this; rw [← this]; exact h3))
    (fun i b hi hb => by
      rw [hownS i hi] at hb
      have hge := hnewb i b hb
      rintro (h1 | h1)
      · have := h.okLt b h1; omega
      · exact h2.apart i b hb h1) h2.os h2.out h2.tape
  refine ⟨β', _, key.2, (hv.mono ext2).mapP (p := CV.plain) (fun c v hc h => ?_) hp⟩
  cases h <;> first | exact hc.elim | skip
  case undef => exact .undef _
  case bool => exact .bool _
  case int => exact .int _ _
  case str => exact .str _
  case slc => exact .slc _ _ _ _ (by assumption) (by assumption)
  case osl => exact .osl _ _ (by assumption) (by assumption) (by assumption)

/-- how many objects a call makes -/
def newCount (P : Program) (C : Cfg) (g : FuncId) : Nat := match rtsOf P (C.own g) (resTypes P g) with
  | some ds => ownCounts ds
  | none => 0

theorem call_left (C : Cfg) (h : Inv X env mem al tmps w β ok) {g : FuncId} {id : Nat} {args : List V} {us : Array Value} (hl : us.size = args.length)
    (hargs : ∀ (j : Nat) v u, args[j]? = some v → us.toList[j]? = some u → RelV w ok X.rd β (kds mem) al v u) (hid : ∀ j, id ≤ j → j < id + newCount P C g → ¬ al j) {call : CallF} {out : Out}
    (hr : (callPure P C g args id).runC call mem = some out) (hcall : ∀ (as : List V) (ds : List VD) (x : ElV ds), call g as [] ⟨ds, 0⟩ = some x → FnSpec0 P g as ds x) :
    Calls P g us w fun e w' => ∃ v β' ok', e = .returned v ∧ Inv X env (wrs mem out.ws) (fun i => al i ∨ (id ≤ i ∧ i < id + newCount P C g)) tmps w' β' ok' ∧
      RelV w' ok' X.rd β' (kds (wrs mem out.ws)) (fun i => al i ∨ (id ≤ i ∧ i < id + newCount P C g)) out.v v := by
  unfold callPure at hr
  split at hr
  · cases hr
  · rename_i ds hds
    have hcnt : newCount P C g = ownCounts ds := by unfold newCount; rw [hds]
    rw [hcnt] at hid ⊢
    rw [runC_bind, runC_CF _ (CF_pureVs _)] at hr
    cases has : (pureVs args).run1 mem with
    | none => rw [has] at hr; cases hr
    | some as =>
    rw [has, Option.bind_some, runC_bind] at hr
    let rdx : Nat → Prop := fun b => X.rd b ∨ ∃ i, own mem β i = some b
    have hrlt : ∀ b, rdx b → b < w.heap.size := by
      rintro b (hb | ⟨i, hb⟩)
      · have := h.rdLt b hb; have := h.grow; omega
      · exact ownB_lt (h.obj i) hb
    cases hfl : flatVals ds with
    | true =>
      rw [hfl] at hr
      simp only [cond, Rd.runC, Option.bind_some] at hr
      cases hx : call g as [] ⟨ds, 0⟩ with
      | none => rw [hx] at hr; cases hr
      | some x =>
        rw [hx] at hr
        simp only [Option.bind_some, Rd.runC, Option.some.injEq] at hr
        subst hr
        let okx : Nat → Prop := fun b => ok b ∨ ∃ i, own mem β i = some b
        have hoklt : ∀ b, okx b → b < w.heap.size := by
          rintro b (hb | ⟨i, hb⟩)
          · exact h.okLt b hb
          · exact ownB_lt (h.obj i) hb
        have H : Hand w ok X.rd β mem mem al okx rdx (fun _ => True) := {
          obj := h.obj
          froze := Froze.refl _
          hok := fun _ h => .inl h
          hrd := fun _ h => .inl h
          own := fun i b hb => .inr ⟨i, hb⟩
          rows := fun i _ t xs hx => by
            have hob := h.obj i
            rcases hx with hx | hx
            · rw [hx] at hob
              exact row_rep hob (fun _ h => .inl h) fun b hb => .inr ⟨i, by unfold own; rw [hx]; exact hb⟩
            · rw [hx] at hob
              exact RepE.mono (fun _ _ => rfl) (fun _ h => .inl h) hob }
        obtain ⟨hal, hrel⟩ := hand_Vs (β0 := β) H args as us.toList has (.inl fun _ => trivial) (by simpa using hl) hargs
        obtain ⟨hos, hsc⟩ := packVs_flat ds x id hfl
        refine Calls.mono (hcall as ds x hx w okx rdx β us hoklt hrlt (by rw [hal]; exact hl) hrel) fun e w' he => ?_
        obtain ⟨v, ok', rfl, hres⟩ := he
        obtain ⟨β', h2, hv⟩ := hres id
        obtain ⟨a1, a2⟩ := flat_back h h2 (new := fun i => id ≤ i ∧ i < id + ownCounts ds) hsc hv
        refine ⟨v, β, ok, rfl, ?_, ?_⟩
        · rw [hos]; exact a1
        · rw [hos]; exact a2
    | false =>
      rw [hfl] at hr
      simp only [cond] at hr
      rw [runC_bind, runC_CF _ (CF_rowsVs _)] at hr
      cases hL : (rowsVs args).run1 mem with
      | none => rw [hL] at hr; cases hr
      | some L =>
      rw [hL, Option.bind_some, runC_CF _ (CF_freeze _)] at hr
      cases hws : (freeze L).run1 mem with
      | none => rw [hws] at hr; cases hr
      | some ws =>
      rw [hws, Option.bind_some] at hr
      simp only [Rd.runC] at hr
      cases hx : call g as [] ⟨ds, 0⟩ with
      | none => rw [hx] at hr; cases hr
      | some x =>
        rw [hx] at hr
        simp only [Option.bind_some, Rd.runC, Option.some.injEq] at hr
        subst hr
        obtain ⟨ok1, ext, hI, hfz, hfr, hout⟩ := freeze_sound L mem (Froze.refl _) h hws
        have H : Hand w ok1 X.rd β mem (wrs mem ws) al ok1 rdx (fun i => i ∈ L) := {
          obj := hI.obj
          froze := hfz
          hok := fun _ h => h
          hrd := fun _ h => .inl h
          own := fun i b hb => .inr ⟨i, by
            rcases hfz i with h1 | ⟨t, xs, h1, h2⟩
            · unfold own at hb ⊢; rw [← h1]; exact hb
            · unfold own at hb; rw [h2] at hb; simp [ownB] at hb⟩
          rows := fun i hi t xs hx => by
            obtain ⟨t', xs', hx'⟩ := hfr i hi
            have hob := hI.obj i
            rcases hx with hx | hx
            · rw [hx] at hx'; cases hx'
            · rw [hx] at hob; exact hob }
        obtain ⟨hal, hrel⟩ := hand_Vs (β0 := β) H args as us.toList has (.inr ⟨L, hL, fun _ h => h⟩) (by simpa using hl) fun j v u hj hu => (hargs j v u hj hu).mono ext
        refine Calls.mono (hcall as ds x hx w ok1 rdx β us hI.okLt hrlt (by rw [hal]; exact hl) hrel) fun e w' he => ?_
        obtain ⟨v, ok', rfl, hres⟩ := he
        obtain ⟨β', h2, hv⟩ := hres id
        have hc := packVs_count ds x id
        rw [← hc] at h2 hv hid ⊢
        have hpl : (tupV (packVs ds x id).1).allV CV.plain := tupV_all (packVs_all trivial ds x id fun d hd y k => packRT_plain _ y k (rtsOf_noKeep _ ds hds d hd))
        obtain ⟨β3, ok3, a1, a2⟩ := rows_back hI hid (packVs_rows ds x id) h2 hpl hv
        refine ⟨v, β3, ok3, rfl, ?_, ?_⟩
        · rw [wrs_append]; exact a1
        · rw [wrs_append]; exact a2
end
end Go.Sk
