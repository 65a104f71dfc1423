/- How a state changes: the one lemma on updates, and the operations that make or write memory. -/
import Derived.Test.YtgamdchlgikaiaaSkD
set_option linter.unusedSimpArgs false
set_option linter.unusedVariables false
namespace Go.Sk
open Go

@[reducible] def own (mem : List Obj) (β : Nat → Value) (i : Nat) : Option Nat := ownB (mem.getD i .dead) (β i)

theorem ObjRel.mono {w : World} {ok : Nat → Prop} {rd : Nat → Prop} {β : Nat → Value} {kd : Nat → KD} {al : Nat → Prop} {w' : World} {ok' : Nat → Prop} {β' : Nat → Value} {kd' : Nat → KD} {al' : Nat → Prop}
    (e : Ext w ok rd β kd al w' ok' β' kd' al') {i : Nat} {o : Obj} (hb : β' i = β i) (ho : ∀ b, ownB o (β i) = some b → w'.heap[b]? = w.heap[b]?) (h : ObjRel w ok rd β kd al i o) : ObjRel w' ok' rd β' kd' al' i o := by
  cases o with
  | dead => trivial
  | cells cs =>
    obtain ⟨b, us, T, e1, hh, hl⟩ := h
    exact ⟨b, us, T, by rw [hb, e1], by rw [ho b (by rw [e1]; rfl)]; exact hh, hl.mono e⟩
  | row t xs =>
    obtain ⟨A, c, e1, h⟩ := h
    refine ⟨A, c, by rw [hb, e1], ?_⟩
    rcases h with h | ⟨b, o, arr, T, rfl, hh, h0, h1, h2, h3⟩
    · exact .inl h
    · refine .inr ⟨b, o, arr, T, rfl, ?_, h0, h1, h2, h3.mono e.cells e.ok⟩
      rw [ho b (by rw [e1]; simp [ownB]; omega)]; exact hh
  | frz t xs =>
    show RepE w' ok' (.slice t) xs [β' i]
    rw [hb]
    exact RepE.mono e.cells e.ok h
  | full t xs =>
    obtain ⟨A, e1, h⟩ := h
    refine ⟨A, by rw [hb, e1], ?_⟩
    rcases h with h | ⟨b, o, arr, T, rfl, hh, h2, h3⟩
    · exact .inl h
    · by_cases hx : xs = []
      · exact .inl hx
      · have hne : xs.length ≠ 0 := fun hl => hx (List.eq_nil_of_length_eq_zero hl)
        refine .inr ⟨b, o, arr, T, rfl, ?_, h2, h3.mono e.cells e.ok⟩
        rw [ho b (by rw [e1]; simp [ownB, hne])]; exact hh
  | ghost cs =>
    obtain ⟨us, e1, h⟩ := h
    exact ⟨us, by rw [hb, e1], h.mono e⟩
  | map kt vt g es tidy =>
    obtain ⟨r, arr, clock, e1, hh, h⟩ := h
    exact ⟨r, arr, clock, by rw [hb, e1], by rw [ho r (by rw [e1]; rfl)]; exact hh, h.mono e.cells e.ok⟩

theorem Inv.update {X : Fr} {env : List V} {mem : List Obj} {al : Nat → Prop} {tmps : Array Value} {w : World} {β : Nat → Value} {ok : Nat → Prop} (h : Inv X env mem al tmps w β ok)
    {mem' : List Obj} {al' : Nat → Prop} {w' : World} {β' : Nat → Value} {ok' : Nat → Prop} (S : Nat → Prop)
    (hal : ∀ i, al i → al' i) (hlen : ∀ i, S i → kds mem' i ≠ .none → al' i)
    (hm : ∀ i, ¬ S i → mem'.getD i .dead = mem.getD i .dead) (hβ : ∀ i, ¬ S i → β' i = β i)
    (hS : ∀ i, S i → al i → (kds mem' i = kds mem i ∧ β' i = β i) ∨ kds mem' i = .none)
    (hng : ∀ i, S i → kds mem' i = .ghost → kds mem i = .ghost ∧ β' i = β i)
    (hheap : ∀ b, b < w.heap.size → (∀ i, S i → own mem β i ≠ some b) → w'.heap[b]? = w.heap[b]?) (hgrow : w.heap.size ≤ w'.heap.size)
    (hok : ∀ b, ok b → ok' b) (hok' : ∀ b, ok' b → ok b ∨ (∃ i, S i ∧ own mem β i = some b) ∨ (w.heap.size ≤ b ∧ b < w'.heap.size))
    (hnew : Ext w ok X.rd β (kds mem) al w' ok' β' (kds mem') al' → ∀ i, S i → ObjRel w' ok' X.rd β' (kds mem') al' i (mem'.getD i .dead))
    (hown : ∀ i b, S i → own mem' β' i = some b → (∃ j, S j ∧ own mem β j = some b) ∨ w.heap.size ≤ b)
    (hinj : ∀ i j b, S i → S j → own mem' β' i = some b → own mem' β' j = some b → i = j)
    (hap : ∀ i b, S i → own mem' β' i = some b → ¬ ok' b)
    (os : w'.os = w.os) (out : w'.output = w.output) (tape : w'.tape = w.tape) :
    Ext w ok X.rd β (kds mem) al w' ok' β' (kds mem') al' ∧ Inv X env mem' al' tmps w' β' ok' := by
  have hbS : ∀ i j b, ¬ S i → S j → own mem β i = some b → own mem β j ≠ some b := fun i j b hi hj h1 h2 => hi (by rw [h.inj i j b h1 h2]; exact hj)
  have ext : Ext w ok X.rd β (kds mem) al w' ok' β' (kds mem') al' := by
    refine ⟨fun b hb => hheap b (h.okLt b hb) fun i _ h2 => h.apart i b h2 hb, fun b hb => hheap b (by have := h.rdLt b hb; have := h.grow; omega) fun i _ h2 => h.apartR i b h2 hb, hok, fun i hi => ?_, fun i hi hk => ?_, hal⟩
    · by_cases hs : S i
      · exact (hS i hs hi).imp (·.1) id
      · left; show (mem'.getD i .dead).kd = _; rw [hm i hs]
    · by_cases hs : S i
      · rcases hS i hs hi with h1 | h1
        · exact h1.2
        · exact absurd h1 hk
      · exact hβ i hs
  have ownN : ∀ i, ¬ S i → own mem' β' i = own mem β i := fun i hi => by unfold own; rw [hm i hi, hβ i hi]
  have lt : ∀ i b, own mem β i = some b → b < w.heap.size := fun i b hb => ownB_lt (h.obj i) hb
  refine ⟨ext, ?_⟩
  exact {
    size := h.size
    env := fun t v ht => (h.env t v ht).mono ext
    obj := fun i => by
      by_cases hs : S i
      · exact hnew ext i hs
      · have := ObjRel.mono ext (hβ i hs) (fun b hb => hheap b (lt i b hb) fun j hj => hbS i j b hs hj hb) (h.obj i)
        rw [hm i hs]; exact this
    len := fun i hi => by
      by_cases hs : S i
      · exact hlen i hs hi
      · exact hal i (h.len i (by rwa [hm i hs] at hi))
    inj := fun i j b h1 h2 => by
      by_cases hs : S i <;> by_cases ht : S j
      · exact hinj i j b hs ht h1 h2
      · have h2' : own mem β j = some b := by rw [← ownN j ht]; exact h2
        rcases hown i b hs h1 with ⟨k, hk, hk'⟩ | hk
        · exact absurd hk' (hbS j k b ht hk h2')
        · have := lt j b h2'; omega
      · have h1' : own mem β i = some b := by rw [← ownN i hs]; exact h1
        rcases hown j b ht h2 with ⟨k, hk, hk'⟩ | hk
        · exact absurd hk' (hbS i k b hs hk h1')
        · have := lt i b h1'; omega
      · exact h.inj i j b (by have := ownN i hs; unfold own at this; rw [← this]; exact h1) (by have := ownN j ht; unfold own at this; rw [← this]; exact h2)
    apart := fun i b h1 h2 => by
      by_cases hs : S i
      · exact hap i b hs h1 h2
      · have h1' : own mem β i = some b := by rw [← ownN i hs]; exact h1
        rcases hok' b h2 with h3 | ⟨j, hj, h3⟩ | h3
        · exact h.apart i b h1' h3
        · exact hbS i j b hs hj h1' h3
        · have := lt i b h1'; omega
    apartR := fun i b h1 h2 => by
      by_cases hs : S i
      · rcases hown i b hs h1 with ⟨k, hk, hk'⟩ | hk
        · exact h.apartR k b hk' h2
        · have := h.rdLt b h2; have := h.grow; omega
      · exact h.apartR i b (by have := ownN i hs; unfold own at this; rw [← this]; exact h1) h2
    gh := fun i hg => by
      by_cases hs : S i
      · obtain ⟨h1, h2⟩ := hng i hs hg
        rw [h2]; exact h.gh i h1
      · rw [hβ i hs]
        exact h.gh i (by rwa [show kds mem' i = kds mem i by show (mem'.getD i .dead).kd = _; rw [hm i hs]] at hg)
    rdLt := h.rdLt
    okLt := fun b hb => by
      rcases hok' b hb with h3 | ⟨j, hj, h3⟩ | h3
      · have := h.okLt b h3; omega
      · have := lt j b h3; omega
      · exact h3.2
    okOld := fun b hb hlt => by
      rcases hok' b hb with h3 | ⟨j, hj, h3⟩ | h3
      · exact h.okOld b h3 hlt
      · exact .inr (h.ownOld j b h3 hlt)
      · have := h.grow; omega
    ownOld := fun i b hb hlt => by
      by_cases hs : S i
      · rcases hown i b hs hb with ⟨k, hk, hk'⟩ | hk
        · exact h.ownOld k b hk' hlt
        · have := h.grow; omega
      · exact h.ownOld i b (by have := ownN i hs; unfold own at this; rw [← this]; exact hb) hlt
    keep := fun b hb hno => by
      rw [hheap b (by have := h.grow; omega) fun i _ h2 => hno (h.ownOld i b h2 hb)]
      exact h.keep b hb hno
    grow := Nat.le_trans h.grow hgrow
    os := os.trans h.os
    out := out.trans h.out
    tape := tape.trans h.tape }

theorem Inv.put {X : Fr} {env : List V} {mem : List Obj} {al : Nat → Prop} {tmps : Array Value} {w : World} {β : Nat → Value} {ok : Nat → Prop} (h : Inv X env mem al tmps w β ok)
    (t : Nat) {v : V} {cv : Value} (hv : RelV w ok X.rd β (kds mem) al v cv) : Inv X (env.set t v) mem al (tmps.setIfInBounds t cv) w β ok :=
  { h with
    size := by simp [h.size]
    env := fun i u hi => by
      have hsz := h.size
      rw [List.getElem?_set] at hi
      split at hi
      · rename_i hti
        subst hti
        split at hi
        · rename_i hlt
          simp at hi; subst hi
          have : (tmps.setIfInBounds t cv).getD t undef = cv := by simp [Array.getD_eq_getD_getElem?, hsz, hlt]
          rw [this]; exact hv
        · cases hi
      · rename_i hti
        have : (tmps.setIfInBounds t cv).getD i undef = tmps.getD i undef := by simp [Array.getD_eq_getD_getElem?, Array.getElem?_setIfInBounds, hti]
        rw [this]; exact h.env i u hi }

/-- the world may have drawn -/
theorem Inv.heap {X : Fr} {env : List V} {mem : List Obj} {al : Nat → Prop} {tmps : Array Value} {w w' : World} {β : Nat → Value} {ok : Nat → Prop} (h : Inv X env mem al tmps w β ok)
    (hh : w'.heap = w.heap) (os : w'.os = w.os) (out : w'.output = w.output) (tape : w'.tape = w.tape) : Inv X env mem al tmps w' β ok :=
  (h.update (mem' := mem) (al' := al) (β' := β) (ok' := ok) (fun _ => False) (fun _ h => h) (fun _ h => h.elim) (fun _ _ => rfl) (fun _ _ => rfl) (fun _ h => h.elim) (fun _ h => h.elim) (fun b _ _ => by rw [hh]) (by rw [hh]; exact Nat.le_refl _)
    (fun _ h => h) (fun _ h => .inl h) (fun _ _ h => h.elim) (fun _ _ h => h.elim) (fun _ _ _ h => h.elim) (fun _ _ h => h.elim) os out tape).2

/-! ### the store of objects, by number -/
theorem wr_getD : ∀ (m : List Obj) (i : Nat) (o : Obj) (j : Nat), (wr m i o).getD j .dead = if j = i then o else m.getD j .dead
  | [], 0, o, j => by cases j <;> simp [wr]
  | [], i + 1, o, j => by
    cases j with
    | zero => simp [wr]
    | succ j => simp only [wr, List.getD_cons_succ, wr_getD [] i o j]; simp
  | x :: r, 0, o, j => by cases j <;> simp [wr]
  | x :: r, i + 1, o, j => by
    cases j with
    | zero => simp [wr]
    | succ j => simp only [wr, List.getD_cons_succ, wr_getD r i o j]; simp

/-! ### a new variable -/
section
variable {X : Fr} {env : List V} {mem : List Obj} {al : Nat → Prop} {tmps : Array Value} {w : World} {β : Nat → Value} {ok : Nat → Prop}
def setβ (β : Nat → Value) (i : Nat) (v : Value) : Nat → Value := fun j => if j = i then v else β j
theorem setβ_same (β : Nat → Value) (i : Nat) (v : Value) : setβ β i v i = v := by simp [setβ]
theorem setβ_other (β : Nat → Value) {i j : Nat} (v : Value) (h : j ≠ i) : setβ β i v j = β j := by simp [setβ, h]
theorem heap_alloc_old (w : World) (o : Go.Obj) {b : Nat} (h : b < w.heap.size) : (w.alloc o).heap[b]? = w.heap[b]? := by
  show (w.heap.push o)[b]? = _
  rw [Array.getElem?_push, if_neg (by omega)]
theorem heap_alloc_at (w : World) (o : Go.Obj) : (w.alloc o).heap[w.heap.size]? = some o := by
  show (w.heap.push o)[w.heap.size]? = _
  simp
theorem size_alloc (w : World) (o : Go.Obj) : (w.alloc o).heap.size = w.heap.size + 1 := by
  show (w.heap.push o).size = _
  simp

theorem Inv.newCells (h : Inv X env mem al tmps w β ok) {id : Nat} (hid : ¬ al id) {cs : List CV} {us : List Value} (hl : RelL w ok X.rd β (kds mem) al cs us) (T : TypeId) :
    let w' := w.alloc (.cells us.toArray T)
    let β' := setβ β id (.pointer (some ⟨w.heap.size, 0, none⟩))
    let al' := fun i => al i ∨ i = id
    Inv X env (wr mem id (.cells cs)) al' tmps w' β' ok ∧ RelC w' ok X.rd β' (kds (wr mem id (.cells cs))) al' (.ptr id 0) (.pointer (some ⟨w.heap.size, 0, none⟩)) := by
  intro w' β' al'
  have hd : mem.getD id .dead = .dead := by
    cases hm : mem.getD id .dead with
    | dead => rfl
    | _ => exact absurd (h.len id (by rw [hm]; simp [Obj.kd])) hid
  have hkd : kds (wr mem id (.cells cs)) id = .cells := by show ((wr mem id (.cells cs)).getD id .dead).kd = _; rw [wr_getD]; simp [Obj.kd]
  have key := h.update (mem' := wr mem id (.cells cs)) (al' := al') (w' := w') (β' := β') (ok' := ok) (fun i => i = id) (fun i hi => .inl hi) (fun i hi _ => .inr hi)
    (fun i hi => by rw [wr_getD, if_neg hi]) (fun i hi => setβ_other _ _ hi) (fun i hi ha => absurd (by rw [← hi]; exact ha) hid) (fun i hi hg => by subst hi; rw [hkd] at hg; cases hg)
    (fun b hb _ => heap_alloc_old _ _ hb) (by rw [size_alloc]; omega) (fun _ h => h) (fun _ h => .inl h)
    (fun ext i hi => by
      subst hi
      rw [wr_getD, if_pos rfl]
      exact ⟨w.heap.size, us, T, setβ_same _ _ _, heap_alloc_at _ _, hl.mono ext⟩)
    (fun i b hi hb => by
      subst hi
      simp only [own, wr_getD, if_true, β', setβ_same, ownB, Option.some.injEq] at hb
      exact .inr (by omega))
    (fun i j b hi hj _ _ => by rw [hi, hj])
    (fun i b hi hb hok => by
      subst hi
      simp only [own, wr_getD, if_true, β', setβ_same, ownB, Option.some.injEq] at hb
      have := h.okLt b hok
      omega) rfl rfl rfl
  exact ⟨key.2, .ptr _ _ _ (.inr rfl) (fun _ => ⟨_, setβ_same _ _ _, rfl⟩) rfl⟩

/-! ### rows -/
/-- the cells of rows, one behind the other -/
theorem cells_of_rows {α : Type} {R : α → List Value → Prop} {size : Nat} : ∀ (xs : List α) (rd : Nat → Option Value),
    (∀ k x, xs[k]? = some x → ∃ us, us.length = size ∧ R x us ∧ ∀ j u, us[j]? = some u → rd (k * size + j) = some u) →
    ∃ news : List Value, news.length = xs.length * size ∧ (∀ (i : Nat) u, news[i]? = some u → rd i = some u) ∧
      (∀ k x, xs[k]? = some x → ∃ us, us.length = size ∧ R x us ∧ ∀ j u, us[j]? = some u → news[k * size + j]? = some u) ∧ (∀ u ∈ news, ∃ x us, R x us ∧ u ∈ us)
  | [], rd, _ => ⟨[], by simp, by simp, by simp, by simp⟩
  | x :: r, rd, h => by
    obtain ⟨us, hl, hR, hu⟩ := h 0 x rfl
    obtain ⟨news, h1, h2, h3, h4⟩ := cells_of_rows r (fun i => rd (size + i)) (fun k y hk => by
      obtain ⟨us, hl, hR, hu⟩ := h (k + 1) y (by simpa using hk)
      exact ⟨us, hl, hR, fun j u hj => by have := hu j u hj; rw [Nat.add_mul, Nat.one_mul] at this; rw [← this]; congr 1; omega⟩)
    refine ⟨us ++ news, by simp [h1, hl, Nat.add_mul, Nat.add_comm], fun i u hi => ?_, fun k y hk => ?_, fun u hu' => ?_⟩
    · by_cases hlt : i < us.length
      · rw [List.getElem?_append_left hlt] at hi
        simpa using hu i u hi
      · have hge : us.length ≤ i := Nat.le_of_not_lt hlt
        rw [List.getElem?_append_right hge] at hi
        have := h2 _ _ hi
        rw [hl] at this
        rw [← this]; congr 1; omega
    · cases k with
      | zero =>
        simp at hk; subst hk
        exact ⟨us, hl, hR, fun j u hj => by
          have : j < us.length := by
            rcases Nat.lt_or_ge j us.length with h | h
            · exact h
            · rw [List.getElem?_eq_none h] at hj; cases hj
          rw [Nat.zero_mul, Nat.zero_add, List.getElem?_append_left this]; exact hj⟩
      | succ k =>
        obtain ⟨vs, hvl, hvR, hv⟩ := h3 k y (by simpa using hk)
        refine ⟨vs, hvl, hvR, fun j u hj => ?_⟩
        rw [List.getElem?_append_right (by rw [hl, Nat.add_mul, Nat.one_mul]; omega), hl]
        have := hv j u hj
        rw [← this]; congr 1; rw [Nat.add_mul, Nat.one_mul]; omega
    · rcases List.mem_append.1 hu' with h5 | h5
      · exact ⟨x, us, hR, h5⟩
      · exact h4 u h5

/-- the elements ys stand as the cells news -/
structure Cells (w : World) (ok : Nat → Prop) (t : Ty) (ys : List (El t)) (news : List Value) : Prop where
  length : news.length = ys.length * t.size
  at_ : ∀ k x, ys[k]? = some x → ∃ us, us.length = t.size ∧ RepE w ok t x us ∧ ∀ j u, us[j]? = some u → news[k * t.size + j]? = some u
  one : ∀ u ∈ news, u.oneCell' = true
theorem Cells.mono {w' : World} {ok' : Nat → Prop} {t : Ty} {ys : List (El t)} {news : List Value} (hc : ∀ b, ok b → w'.heap[b]? = w.heap[b]?) (ho : ∀ b, ok b → ok' b) (h : Cells w ok t ys news) : Cells w' ok' t ys news :=
  ⟨h.length, fun k x hk => let ⟨us, hl, hr, hu⟩ := h.at_ k x hk; ⟨us, hl, RepE.mono hc ho hr, hu⟩, h.one⟩
theorem Cells.append {t : Ty} {xs ys : List (El t)} {us vs : List Value} (h : Cells w ok t xs us) (g : Cells w ok t ys vs) : Cells w ok t (xs ++ ys) (us ++ vs) := by
  refine ⟨by rw [List.length_append, List.length_append, Nat.add_mul, h.length, g.length], fun k x hk => ?_, fun u hu => ?_⟩
  · by_cases hlt : k < xs.length
    · rw [List.getElem?_append_left hlt] at hk
      obtain ⟨a, hl, hr, ha⟩ := h.at_ k x hk
      refine ⟨a, hl, hr, fun j u hj => ?_⟩
      have hj' : j < t.size := by
        rcases Nat.lt_or_ge j a.length with h | h
        · omega
        · rw [List.getElem?_eq_none h] at hj; cases hj
      have : k * t.size + j < us.length := by
        rw [h.length]
        have : (k + 1) * t.size ≤ xs.length * t.size := Nat.mul_le_mul_right _ hlt
        rw [Nat.add_mul, Nat.one_mul] at this
        omega
      rw [List.getElem?_append_left this]; exact ha j u hj
    · have hge : xs.length ≤ k := Nat.le_of_not_lt hlt
      rw [List.getElem?_append_right hge] at hk
      obtain ⟨a, hl, hr, ha⟩ := g.at_ _ x hk
      refine ⟨a, hl, hr, fun j u hj => ?_⟩
      have hmul : xs.length * t.size ≤ k * t.size := Nat.mul_le_mul_right _ hge
      rw [List.getElem?_append_right (by rw [h.length]; omega), h.length]
      have := ha j u hj
      rw [Nat.sub_mul] at this
      rw [← this]; congr 1; omega
  · rcases List.mem_append.1 hu with h1 | h1
    · exact h.one u h1
    · exact g.one u h1

/-- a new row; the objects of D are given up -/
theorem Inv.newRow (h : Inv X env mem al tmps w β ok) {id : Nat} (hid : ¬ al id) {t : Ty} {xs : List (El t)} {arr : Array Value} {c : Nat} {T : TypeId} {w1 : World} (hw1 : w1.heap = w.heap) (os : w1.os = w.os) (out : w1.output = w.output) (tape : w1.tape = w.tape)
    (D : Nat → Bool) (hD : ∀ i, D i = true → al i)
    {news : List Value} (hn : Cells w ok t xs news) (ha : ∀ (i : Nat) u, news[i]? = some u → arr[i]? = some u) (hc : xs.length ≤ c) (h0 : 0 < c) (hsz : c * t.size ≤ arr.size)
    (hsp : ∃ sp : List (El t), xs.length + sp.length = c ∧ ∀ (k : Nat) x, sp[k]? = some x → ∃ us, us.length = t.size ∧ RepE w ok t x us ∧ ∀ (j : Nat) u, us[j]? = some u → arr[(xs.length + k) * t.size + j]? = some u)
    {mem' : List Obj} (hm : ∀ i, mem'.getD i .dead = if i = id then .row t xs else if D i = true then .dead else mem.getD i .dead) :
    let w' := w1.alloc (.cells arr T)
    let β' := setβ β id (.slice (some ⟨w.heap.size, 0, none⟩) xs.length c)
    let al' := fun i => al i ∨ i = id
    Inv X env mem' al' tmps w' β' ok ∧ RelC w' ok X.rd β' (kds mem') al' (.osl id) (.slice (some ⟨w.heap.size, 0, none⟩) xs.length c) := by
  intro w' β' al'
  have hsz1 : w1.heap.size = w.heap.size := by rw [hw1]
  have hidm : mem'.getD id .dead = .row t xs := by rw [hm, if_pos rfl]
  have hDm : ∀ i, i ≠ id → D i = true → mem'.getD i .dead = .dead := fun i h1 h2 => by rw [hm, if_neg h1, if_pos h2]
  have hβid : β' id = .slice (some ⟨w.heap.size, 0, none⟩) xs.length c := setβ_same _ _ _
  have hownid : ∀ b, own mem' β' id = some b → b = w.heap.size := fun b hb => by
    unfold own at hb
    rw [hidm, hβid] at hb
    simp only [ownB] at hb
    rw [if_neg (by omega)] at hb
    simpa using hb.symm
  have hownD : ∀ i b, i ≠ id → D i = true → own mem' β' i ≠ some b := fun i b h1 h2 hb => by
    unfold own at hb
    rw [hDm i h1 h2] at hb
    simp [ownB] at hb
  have key := h.update (mem' := mem') (al' := al') (w' := w') (β' := β') (ok' := ok) (fun i => i = id ∨ D i = true) (fun i hi => .inl hi)
    (fun i hi hk => by
      rcases hi with hi | hi
      · exact .inr hi
      · exact .inl (hD i hi))
    (fun i hi => by
      have h1 : i ≠ id := fun e => hi (.inl e)
      have h2 : ¬ D i = true := fun e => hi (.inr e)
      rw [hm, if_neg h1, if_neg h2])
    (fun i hi => setβ_other _ _ fun e => hi (.inl e))
    (fun i hi ha => by
      rcases hi with hi | hi
      · exact absurd (by rw [← hi]; exact ha) hid
      · by_cases e : i = id
        · exact absurd (by rw [← e]; exact ha) hid
        · right; show (mem'.getD i .dead).kd = _; rw [hDm i e hi]; rfl)
    (fun i hi hg => by
      by_cases e : i = id
      · have : (mem'.getD i .dead).kd = .ghost := hg
        rw [e, hidm] at this; cases this
      · have : (mem'.getD i .dead).kd = .ghost := hg
        rw [hDm i e (hi.resolve_left e)] at this; cases this)
    (fun b hb _ => by rw [show w'.heap[b]? = w1.heap[b]? from heap_alloc_old _ _ (by omega), hw1])
    (by rw [size_alloc]; omega) (fun _ h => h) (fun _ h => .inl h)
    (fun ext i hi => by
      by_cases e : i = id
      · subst e
        rw [hidm]
        refine ⟨some ⟨w.heap.size, 0, none⟩, c, hβid, .inr ⟨w.heap.size, 0, arr, T, rfl, ?_, h0, hc, by omega, lies_of (fun k x hk => ?_) ?_⟩⟩
        · rw [← hsz1]; exact heap_alloc_at _ _
        rotate_left
        · obtain ⟨sp, s1, s2⟩ := hsp
          exact ⟨sp, s1, fun k x hk => let ⟨us, a, b, e⟩ := s2 k x hk; ⟨us, a, RepE.mono ext.cells ext.ok b, fun j u hj => by rw [Nat.zero_add]; exact e j u hj⟩⟩
        · obtain ⟨us, hl, hr, hu⟩ := hn.at_ k x hk
          exact ⟨us, hl, RepE.mono ext.cells ext.ok hr, fun j u hj => by rw [Nat.zero_add]; exact ha _ _ (hu j u hj)⟩
      · rw [hDm i e (hi.resolve_left e)]; trivial)
    (fun i b hi hb => by
      by_cases e : i = id
      · subst e; right; rw [hownid b hb]; exact Nat.le_refl _
      · exact absurd hb (hownD i b e (hi.resolve_left e)))
    (fun i j b hi hj h1 h2 => by
      by_cases e : i = id <;> by_cases e2 : j = id
      · rw [e, e2]
      · exact absurd h2 (hownD j b e2 (hj.resolve_left e2))
      · exact absurd h1 (hownD i b e (hi.resolve_left e))
      · exact absurd h1 (hownD i b e (hi.resolve_left e)))
    (fun i b hi hb hok => by
      by_cases e : i = id
      · subst e
        have := hownid b hb
        have := h.okLt b hok
        omega
      · exact absurd hb (hownD i b e (hi.resolve_left e))) os out tape
  exact ⟨key.2, .osl _ _ (.inr rfl) (fun _ => hβid.symm) rfl⟩

/-- a new row without memory: nil, or what has no capacity -/
theorem Inv.newRow0 (h : Inv X env mem al tmps w β ok) {id : Nat} (hid : ¬ al id) {t : Ty} {A : Option Addr} (D : Nat → Bool) (hD : ∀ i, D i = true → al i)
    {mem' : List Obj} (hm : ∀ i, mem'.getD i .dead = if i = id then .row t [] else if D i = true then .dead else mem.getD i .dead) :
    let β' := setβ β id (.slice A 0 0)
    let al' := fun i => al i ∨ i = id
    Inv X env mem' al' tmps w β' ok ∧ RelC w ok X.rd β' (kds mem') al' (.osl id) (.slice A 0 0) := by
  intro β' al'
  have hidm : mem'.getD id .dead = .row t [] := by rw [hm, if_pos rfl]
  have hDm : ∀ i, i ≠ id → D i = true → mem'.getD i .dead = .dead := fun i h1 h2 => by rw [hm, if_neg h1, if_pos h2]
  have hβid : β' id = .slice A 0 0 := setβ_same _ _ _
  have hno : ∀ i b, (i = id ∨ D i = true) → own mem' β' i ≠ some b := fun i b hi hb => by
    unfold own at hb
    by_cases e : i = id
    · rw [e, hidm, hβid] at hb
      cases A <;> simp [ownB] at hb
    · rw [hDm i e (hi.resolve_left e)] at hb
      simp [ownB] at hb
  have key := h.update (mem' := mem') (al' := al') (w' := w) (β' := β') (ok' := ok) (fun i => i = id ∨ D i = true) (fun i hi => .inl hi)
    (fun i hi hk => by
      rcases hi with hi | hi
      · exact .inr hi
      · exact .inl (hD i hi))
    (fun i hi => by
      have h1 : i ≠ id := fun e => hi (.inl e)
      have h2 : ¬ D i = true := fun e => hi (.inr e)
      rw [hm, if_neg h1, if_neg h2])
    (fun i hi => setβ_other _ _ fun e => hi (.inl e))
    (fun i hi ha => by
      rcases hi with hi | hi
      · exact absurd (by rw [← hi]; exact ha) hid
      · by_cases e : i = id
        · exact absurd (by rw [← e]; exact ha) hid
        · right; show (mem'.getD i .dead).kd = _; rw [hDm i e hi]; rfl)
    (fun i hi hg => by
      by_cases e : i = id
      · have : (mem'.getD i .dead).kd = .ghost := hg
        rw [e, hidm] at this; cases this
      · have : (mem'.getD i .dead).kd = .ghost := hg
        rw [hDm i e (hi.resolve_left e)] at this; cases this)
    (fun b hb _ => rfl) (Nat.le_refl _) (fun _ h => h) (fun _ h => .inl h)
    (fun ext i hi => by
      by_cases e : i = id
      · subst e; rw [hidm]; exact ⟨A, 0, hβid, .inl ⟨rfl, rfl⟩⟩
      · rw [hDm i e (hi.resolve_left e)]; trivial)
    (fun i b hi hb => absurd hb (hno i b hi)) (fun i j b hi hj h1 h2 => absurd h1 (hno i b hi)) (fun i b hi hb => absurd hb (hno i b hi)) rfl rfl rfl
  exact ⟨key.2, .osl _ _ (.inr rfl) (fun _ => hβid.symm) rfl⟩

/-- an owned row goes over into another number, its handle and its elements changed, in the block that it has -/
theorem Inv.moveRow (h : Inv X env mem al tmps w β ok) {i id : Nat} (hid : ¬ al id) {t : Ty} {xs ys : List (El t)} (hi : mem.getD i .dead = .row t xs) {b o c c' : Nat} {arr : Array Value} {T : TypeId} {n : Nat} {w' : World} {arr' : Array Value}
    (hβ : β i = .slice (some ⟨b, o, none⟩) n c) (h0 : 0 < c') (hc : ys.length ≤ c') (hne : c ≠ 0)
    (hheap : ∀ b', b' ≠ b → w'.heap[b']? = w.heap[b']?) (hb : w'.heap[b]? = some (.cells arr' T (0, 0))) (hsize : w'.heap.size = w.heap.size) (os : w'.os = w.os) (out : w'.output = w.output) (tape : w'.tape = w.tape)
    {o' : Nat} {news : List Value} (hn : Cells w ok t ys news) (ha : ∀ (j : Nat) u, news[j]? = some u → arr'[o' + j]? = some u) (hsz : o' + c' * t.size ≤ arr'.size)
    (hsp : ∃ sp : List (El t), ys.length + sp.length = c' ∧ ∀ (k : Nat) x, sp[k]? = some x → ∃ us, us.length = t.size ∧ RepE w ok t x us ∧ ∀ (j : Nat) u, us[j]? = some u → arr'[o' + (ys.length + k) * t.size + j]? = some u)
    {mem' : List Obj} (hm : ∀ j, mem'.getD j .dead = if j = id then .row t ys else if j = i then .dead else mem.getD j .dead) :
    let β' := setβ β id (.slice (some ⟨b, o', none⟩) ys.length c')
    let al' := fun i => al i ∨ i = id
    Inv X env mem' al' tmps w' β' ok ∧ RelC w' ok X.rd β' (kds mem') al' (.osl id) (.slice (some ⟨b, o', none⟩) ys.length c') := by
  intro β' al'
  have hi_al : al i := h.len i (by rw [hi]; simp [Obj.kd])
  have hine : i ≠ id := fun e => hid (e ▸ hi_al)
  have hidm : mem'.getD id .dead = .row t ys := by rw [hm, if_pos rfl]
  have him : mem'.getD i .dead = .dead := by rw [hm, if_neg hine, if_pos rfl]
  have hβid : β' id = .slice (some ⟨b, o', none⟩) ys.length c' := setβ_same _ _ _
  have hold : own mem β i = some b := by unfold own; rw [hi, hβ]; simp [ownB, hne]
  have hownid : ∀ b', own mem' β' id = some b' → b' = b := fun b' hb' => by
    unfold own at hb'
    rw [hidm, hβid] at hb'
    simp only [ownB] at hb'
    rw [if_neg (by omega)] at hb'
    simpa using hb'.symm
  have hnoi : ∀ b', own mem' β' i ≠ some b' := fun b' hb' => by
    unfold own at hb'; rw [him] at hb'; simp [ownB] at hb'
  have key := h.update (mem' := mem') (al' := al') (w' := w') (β' := β') (ok' := ok) (fun j => j = id ∨ j = i) (fun i hi => .inl hi)
    (fun j hj hk => by
      rcases hj with hj | hj
      · exact .inr hj
      · exact .inl (hj ▸ hi_al))
    (fun j hj => by rw [hm, if_neg fun e => hj (.inl e), if_neg fun e => hj (.inr e)])
    (fun j hj => setβ_other _ _ fun e => hj (.inl e))
    (fun j hj ha => by
      rcases hj with hj | hj
      · exact absurd (by rw [← hj]; exact ha) hid
      · right; show (mem'.getD j .dead).kd = _; rw [hj, him]; rfl)
    (fun j hj hg => by
      have hg : (mem'.getD j .dead).kd = .ghost := hg
      by_cases e : j = id
      · rw [e, hidm] at hg; cases hg
      · rw [hj.resolve_left e, him] at hg; cases hg)
    (fun b' _ hb' => hheap b' fun e => hb' i (.inr rfl) (by rw [e]; exact hold))
    (by omega) (fun _ h => h) (fun _ h => .inl h)
    (fun ext j hj => by
      by_cases e : j = id
      · subst e
        rw [hidm]
        refine ⟨some ⟨b, o', none⟩, c', hβid, .inr ⟨b, o', arr', T, rfl, hb, h0, hc, hsz, lies_of (fun k x hk => ?_) ?_⟩⟩
        rotate_left
        · obtain ⟨sp, s1, s2⟩ := hsp
          exact ⟨sp, s1, fun k x hk => let ⟨us, a, b, e⟩ := s2 k x hk; ⟨us, a, RepE.mono ext.cells ext.ok b, e⟩⟩
        obtain ⟨us, hl, hr, hu⟩ := hn.at_ k x hk
        exact ⟨us, hl, RepE.mono ext.cells ext.ok hr, fun j u hj => by rw [Nat.add_assoc]; exact ha _ _ (hu j u hj)⟩
      · rw [hj.resolve_left e, him]; trivial)
    (fun j b' hj hb' => by
      by_cases e : j = id
      · subst e; left; exact ⟨i, .inr rfl, by rw [hownid b' hb']; exact hold⟩
      · rw [hj.resolve_left e] at hb'; exact absurd hb' (hnoi b'))
    (fun j k b' hj hk h1 h2 => by
      by_cases e : j = id <;> by_cases e2 : k = id
      · rw [e, e2]
      · rw [hk.resolve_left e2] at h2; exact absurd h2 (hnoi b')
      · rw [hj.resolve_left e] at h1; exact absurd h1 (hnoi b')
      · rw [hj.resolve_left e] at h1; exact absurd h1 (hnoi b'))
    (fun j b' hj hb' hok => by
      by_cases e : j = id
      · subst e
        rw [hownid b' hb'] at hok
        exact h.apart i b hold hok
      · rw [hj.resolve_left e] at hb'; exact absurd hb' (hnoi b')) os out tape
  exact ⟨key.2, .osl _ _ (.inr rfl) (fun _ => hβid.symm) rfl⟩
end
end Go.Sk
