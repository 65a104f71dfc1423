/- Operations that make or write memory: what the model's own do. -/
import Derived.Test.YtgamdchlgikaiaaSkE
set_option linter.unusedSimpArgs false
set_option linter.unusedVariables false
namespace Go.Sk
open Go
section
variable {X : Fr} {env : List V} {mem : List Obj} {al : Nat → Prop} {tmps : Array Value} {w : World} {β : Nat → Value} {ok : Nat → Prop}

/-- an object is changed in its place -/
theorem Inv.modify (h : Inv X env mem al tmps w β ok) {i : Nat} {o' : Obj} {mem' : List Obj} (hm : ∀ j, mem'.getD j .dead = if j = i then o' else mem.getD j .dead) (hk : o'.kd = kds mem i) (hal : al i)
    {w' : World} (hheap : ∀ b, own mem β i ≠ some b → w'.heap[b]? = w.heap[b]?) (hsize : w'.heap.size = w.heap.size) (hown : ∀ b, ownB o' (β i) = some b → own mem β i = some b)
    (hnew : Ext w ok X.rd β (kds mem) al w' ok β (kds mem') al → ObjRel w' ok X.rd β (kds mem') al i o') (os : w'.os = w.os) (out : w'.output = w.output) (tape : w'.tape = w.tape) :
    Ext w ok X.rd β (kds mem) al w' ok β (kds mem') al ∧ Inv X env mem' al tmps w' β ok := by
  have him : mem'.getD i .dead = o' := by rw [hm, if_pos rfl]
  have ho : ∀ b, own mem' β i = some b → own mem β i = some b := fun b hb => by unfold own at hb; rw [him] at hb; exact hown b hb
  refine h.update (mem' := mem') (al' := al) (w' := w') (β' := β) (ok' := ok) (fun j => j = i) (fun _ h => h) (fun j hj _ => hj ▸ hal) (fun j hj => by rw [hm, if_neg hj]) (fun _ _ => rfl)
    (fun j hj _ => .inl ⟨by subst hj; show (mem'.getD j .dead).kd = _; rw [him, hk], rfl⟩) (fun j hj hg => ⟨by subst hj; rw [← hk, ← him]; exact hg, rfl⟩) (fun b _ hb => hheap b (hb i rfl)) (by omega) (fun _ h => h) (fun _ h => .inl h)
    (fun ext j hj => by subst hj; rw [him]; exact hnew ext) (fun j b hj hb => by subst hj; exact .inl ⟨_, rfl, ho b hb⟩) (fun j k _ hj hk _ _ => by rw [hj, hk])
    (fun j b hj hb => by subst hj; exact h.apart _ b (ho b hb)) os out tape

/-- an owned row becomes data -/
theorem Inv.freeze1 (h : Inv X env mem al tmps w β ok) {i : Nat} {t : Ty} {xs : List (El t)} (hi : mem.getD i .dead = .row t xs) {mem' : List Obj} (hm : ∀ j, mem'.getD j .dead = if j = i then .frz t xs else mem.getD j .dead) :
    let ok' := fun b => ok b ∨ own mem β i = some b
    Ext w ok X.rd β (kds mem) al w ok' β (kds mem') al ∧ Inv X env mem' al tmps w β ok' := by
  intro ok'
  have him : mem'.getD i .dead = .frz t xs := by rw [hm, if_pos rfl]
  have hno : ∀ b, own mem' β i ≠ some b := fun b hb => by unfold own at hb; rw [him] at hb; simp [ownB] at hb
  have hal : al i := h.len i (by rw [hi]; simp [Obj.kd])
  refine h.update (mem' := mem') (al' := al) (w' := w) (β' := β) (ok' := ok') (fun j => j = i) (fun _ h => h) (fun j hj _ => hj ▸ hal) (fun j hj => by rw [hm, if_neg hj]) (fun _ _ => rfl)
    (fun j hj _ => .inl ⟨by subst hj; show (mem'.getD j .dead).kd = (mem.getD j .dead).kd; rw [him, hi]; rfl, rfl⟩) (fun j hj hg => by subst hj; have hg : (mem'.getD j .dead).kd = .ghost := hg; rw [him] at hg; cases hg) (fun _ _ _ => rfl) (Nat.le_refl _) (fun _ h => .inl h)
    (fun b hb => by
      rcases hb with hb | hb
      · exact .inl hb
      · exact .inr (.inl ⟨i, rfl, hb⟩))
    (fun ext j hj => by
      subst hj
      rw [him]
      have hob := h.obj j
      rw [hi] at hob
      obtain ⟨A, c, hb, hob⟩ := hob
      show RepE w ok' (.slice t) xs [β j]
      rw [hb]
      rcases hob with ⟨rfl, rfl⟩ | ⟨b, o, arr, T, rfl, hh, h0, hle, hsz, hr⟩
      · exact ⟨A, 0, rfl, Nat.le_refl _, .inl rfl⟩
      · refine ⟨_, c, rfl, hle, .inr ⟨b, o, rfl, .inr ?_, fun k x hk => ?_⟩⟩
        · unfold own; rw [hi, hb]; simp [ownB]; omega
        · obtain ⟨us, hl, hre, hu⟩ := hr k x hk
          exact ⟨us, hl, RepE.mono ext.cells ext.ok hre, fun j u hj => by simp [World.cell?, hh, hu j u hj]⟩)
    (fun j b hj hb => by subst hj; exact absurd hb (hno b)) (fun j k _ hj hk _ _ => by rw [hj, hk]) (fun j b hj hb => by subst hj; exact absurd hb (hno b)) rfl rfl rfl

/-! ### what is written cell by cell -/
theorem heap_setCells (b : Nat) : ∀ (vs : List Value) (o : Nat) (w : World) {arr : Array Value} {T : TypeId}, w.heap[b]? = some (.cells arr T (0, 0)) → o + vs.length ≤ arr.size →
    ∃ arr', (w.setCells b o vs).heap[b]? = some (.cells arr' T (0, 0)) ∧ arr'.size = arr.size ∧ (∀ j, (j < o ∨ o + vs.length ≤ j) → arr'[j]? = arr[j]?) ∧ ∀ (j : Nat) u, vs[j]? = some u → arr'[o + j]? = some u
  | [], o, w, arr, T, h, _ => ⟨arr, h, rfl, fun _ _ => rfl, fun j u hj => by simp at hj⟩
  | v :: r, o, w, arr, T, h, hl => by
    simp at hl
    have h1 : (w.setCell ⟨b, o, none⟩ v).heap[b]? = some (.cells (arr.setIfInBounds o v) T (0, 0)) := by
      simp [World.setCell, Array.getElem?_modify, h]
    obtain ⟨arr', h2, h3, h4, h5⟩ := heap_setCells b r (o + 1) (w.setCell ⟨b, o, none⟩ v) h1 (by simp; omega)
    refine ⟨arr', h2, by simpa using h3, fun j hj => ?_, fun j u hj => ?_⟩
    · rw [h4 j (by simp at hj; omega)]
      rw [Array.getElem?_setIfInBounds]
      rw [if_neg (by simp at hj; omega)]
    · cases j with
      | zero =>
        simp at hj; subst hj
        rw [Nat.add_zero, h4 o (by omega), Array.getElem?_setIfInBounds]
        simp; omega
      | succ j =>
        have := h5 j u (by simpa using hj)
        rw [← this]; congr 1; omega
theorem heap_setCells_other (b : Nat) : ∀ (vs : List Value) (o : Nat) (w : World) (b' : Nat), b' ≠ b → (w.setCells b o vs).heap[b']? = w.heap[b']?
  | [], _, _, _, _ => rfl
  | v :: r, o, w, b', h => by
    rw [World.setCells, heap_setCells_other b r (o + 1) _ b' h]
    simp [World.setCell, Array.getElem?_modify]
    intro e; exact absurd e.symm h
theorem setCells_facts (b : Nat) : ∀ (vs : List Value) (o : Nat) (w : World), (w.setCells b o vs).heap.size = w.heap.size ∧ (w.setCells b o vs).os = w.os ∧ (w.setCells b o vs).output = w.output ∧ (w.setCells b o vs).tape = w.tape
  | [], _, _ => ⟨rfl, rfl, rfl, rfl⟩
  | v :: r, o, w => by
    obtain ⟨h1, h2, h3, h4⟩ := setCells_facts b r (o + 1) (w.setCell ⟨b, o, none⟩ v)
    exact ⟨by rw [World.setCells, h1]; simp [World.setCell], h2, h3, h4⟩

theorem run_storeVar {P : Program} {t : TypeId} {n b o : Nat} {v : Value} {us : List Value} {arr : Array Value} {T : TypeId} (hn : sizeAt P t = some n) (hv : v.cells.toList = us) (hl : us.length = n) (h1 : ∀ u ∈ us, u.oneCell' = true)
    (hb : w.heap[b]? = some (.cells arr T (0, 0))) (hsz : o + us.length ≤ arr.size) : (Go.storeVar t ⟨b, o, none⟩ v).run P w = .ok () (w.setCells b o us) := by
  have hs := run_storeCells_cells (P := P) b o us 0 w (fun j hj => by simp [World.cell?, hb]; omega) (fun j hj => by simp [World.frozen?, hb]) h1
  have hsize : v.cells.size = n := by rw [← hl, ← hv]; simp
  unfold Go.storeVar
  simp only [Sem.run_bind, run_sizeAt hn, Result.andThen_ok]
  simp only [hsize, ne_eq, not_true_eq_false, if_false, hv]
  simpa using hs

theorem splice_length {cs new : List CV} {o : Nat} (h : o + new.length ≤ cs.length) : (splice cs o new).length = cs.length := by
  unfold splice; simp; omega
theorem splice_get {cs new : List CV} {o : Nat} (h : o + new.length ≤ cs.length) (j : Nat) : (splice cs o new)[j]? = if j < o then cs[j]? else if j < o + new.length then new[j - o]? else cs[j]? := by
  unfold splice
  by_cases h1 : j < o
  · rw [if_pos h1, List.append_assoc, List.getElem?_append_left (by simp; omega), List.getElem?_take, if_pos h1]
  · rw [if_neg h1, List.append_assoc, List.getElem?_append_right (by simp; omega)]
    have e : (cs.take o).length = o := by simp; omega
    rw [e]
    by_cases h2 : j < o + new.length
    · rw [if_pos h2, List.getElem?_append_left (by omega)]
    · rw [if_neg h2, List.getElem?_append_right (by omega), List.getElem?_drop]
      congr 1; omega

theorem known_spec : ∀ {cs : List CV}, known cs = true → ∀ c ∈ cs, c ≠ .undef
  | [], _, c, hc => by simp at hc
  | x :: r, h, c, hc => by
    have hx : x ≠ .undef ∧ known r = true := by cases x <;> simp_all [known]
    rcases List.mem_cons.1 hc with rfl | hc
    · exact hx.1
    · exact known_spec hx.2 c hc

theorem relV_cells {v : V} {cv : Value} {kd : Nat → KD} (h : RelV w ok X.rd β kd al v cv) (ht : v.isTup = false) (h1 : ∀ c, v = .one c → cv.oneCell' = true) : RelL w ok X.rd β kd al v.cells cv.cells.toList := by
  cases h with
  | one c _ h =>
    have : cv.cells.toList = [cv] := by
      have := h1 c rfl
      cases cv <;> first | rfl | (simp [Value.oneCell'] at this)
    rw [this]
    exact .cons h .nil
  | agg cs us hl h => exact ⟨hl, h⟩
  | tup => simp [V.isTup] at ht

/-- a store into a variable of the call's own -/
theorem Inv.storeCells {P : Program} (h : Inv X env mem al tmps w β ok) {i off : Nat} {cs new : List CV} (hi : mem.getD i .dead = .cells cs) {t : TypeId} {n : Nat} (hn : sizeAt P t = some n) {v : Value} (hl : RelL w ok X.rd β (kds mem) al new v.cells.toList) (hlen : new.length = n)
    (hknown : ∀ c ∈ new, c ≠ .undef) (hoff : off + n ≤ cs.length) {b : Nat} (hb : β i = .pointer (some ⟨b, 0, none⟩)) :
    ∃ w', (Go.storeVar t ⟨b, off, none⟩ v).run P w = .ok () w' ∧ Inv X env (wr mem i (.cells (splice cs off new))) al tmps w' β ok := by
  have hob := h.obj i
  rw [hi] at hob
  obtain ⟨b', us, T, hb', hh, hus⟩ := hob
  rw [hb] at hb'
  simp at hb'
  subst hb'
  have hvl : v.cells.toList.length = n := by rw [hl.1, hlen]
  have hone : ∀ u ∈ v.cells.toList, u.oneCell' = true := fun u hu => by
    obtain ⟨j, hj⟩ := List.getElem?_of_mem hu
    have hjlt : j < new.length := by
      rw [← hl.1]
      rcases Nat.lt_or_ge j v.cells.toList.length with h | h
      · exact h
      · rw [List.getElem?_eq_none h] at hj; cases hj
    exact (hl.2 j _ u (List.getElem?_eq_getElem hjlt) hj).one (hknown _ (List.getElem_mem hjlt))
  have hsz : off + v.cells.toList.length ≤ us.toArray.size := by simp only [List.size_toArray, hus.1]; omega
  refine ⟨_, run_storeVar hn rfl hvl hone hh hsz, ?_⟩
  obtain ⟨arr', h2, h3, h4, h5⟩ := heap_setCells b v.cells.toList off w hh hsz
  obtain ⟨f1, f2, f3, f4⟩ := setCells_facts b v.cells.toList off w
  have hown : own mem β i = some b := by unfold own; rw [hi, hb]; rfl
  refine (h.modify (o' := .cells (splice cs off new)) (fun j => wr_getD _ _ _ j) (by show KD.cells = (mem.getD i .dead).kd; rw [hi]; rfl) (h.len i (by rw [hi]; simp [Obj.kd]))
    (fun b' hb' => heap_setCells_other b _ _ _ b' fun e => hb' (by rw [e]; exact hown)) f1 (fun b' hb' => by rw [hb] at hb'; rw [hown]; simpa [ownB] using hb') (fun ext => ?_) f2 f3 f4).2
  refine ⟨b, arr'.toList, T, hb, by simpa using h2, by rw [splice_length (by omega)]; simp only [Array.length_toList, h3, List.size_toArray, hus.1], fun j c u hj hu => ?_⟩
  rw [splice_get (by omega)] at hj
  simp only [Array.getElem?_toList] at hu
  by_cases h6 : j < off
  · rw [if_pos h6] at hj
    rw [h4 j (.inl h6)] at hu
    exact (hus.2 j c u hj (by simpa using hu)).mono ext
  · rw [if_neg h6] at hj
    by_cases h7 : j < off + new.length
    · rw [if_pos h7] at hj
      have hlt : j - off < v.cells.toList.length := by omega
      have := h5 (j - off) _ (List.getElem?_eq_getElem hlt)
      rw [show off + (j - off) = j by omega, hu] at this
      exact (hl.2 (j - off) c u hj (by rw [List.getElem?_eq_getElem hlt, ← this])).mono ext
    · rw [if_neg h7] at hj
      rw [h4 j (.inr (by omega))] at hu
      exact (hus.2 j c u hj (by simpa using hu)).mono ext

/-- cells of an owned row's block, written: the row's elements turn -/
theorem Inv.rowWrite (h : Inv X env mem al tmps w β ok) {i : Nat} {t : Ty} {xs ys : List (El t)} (hi : mem.getD i .dead = .row t xs) (hxy : ys.length = xs.length) {b o c n : Nat} (hb : β i = .slice (some ⟨b, o, none⟩) n c) (hc : c ≠ 0)
    {p : Nat} {vs : List Value} {arr : Array Value} {T : TypeId} (hh : w.heap[b]? = some (.cells arr T (0, 0))) (hp : p + vs.length ≤ arr.size) (hp2 : p + vs.length ≤ o + xs.length * t.size)
    (hys : ∀ (arr' : Array Value), arr'.size = arr.size → (∀ j, (j < p ∨ p + vs.length ≤ j) → arr'[j]? = arr[j]?) → (∀ (j : Nat) u, vs[j]? = some u → arr'[p + j]? = some u) →
      ∀ k x, ys[k]? = some x → ∃ us, us.length = t.size ∧ RepE w ok t x us ∧ ∀ j u, us[j]? = some u → arr'[o + k * t.size + j]? = some u) :
    Inv X env (wr mem i (.row t ys)) al tmps (w.setCells b p vs) β ok := by
  have hob := h.obj i
  rw [hi] at hob
  obtain ⟨A, c2, hb2, hob⟩ := hob
  rw [hb] at hb2
  cases hb2
  obtain ⟨arr', h2, h3, h4, h5⟩ := heap_setCells b vs p w hh hp
  obtain ⟨f1, f2, f3, f4⟩ := setCells_facts b vs p w
  have hown : own mem β i = some b := by unfold own; rw [hi, hb]; simp [ownB, hc]
  refine (h.modify (o' := .row t ys) (fun j => wr_getD _ _ _ j) (by show KD.row t = (mem.getD i .dead).kd; rw [hi]; rfl) (h.len i (by rw [hi]; simp [Obj.kd]))
    (fun b' hb' => heap_setCells_other b _ _ _ b' fun e => hb' (by rw [e]; exact hown)) f1 (fun b' hb' => by rw [hb] at hb'; rw [hown]; simp only [ownB, if_neg hc] at hb'; exact hb') (fun ext => ?_) f2 f3 f4).2
  refine ⟨_, c, by rw [hb, hxy], .inr ?_⟩
  rcases hob with ⟨_, rfl⟩ | ⟨b', o', arr0, T0, e1, hh0, h0, hle, hsz, hr⟩
  · exact absurd rfl hc
  · simp at e1
    obtain ⟨rfl, rfl⟩ := e1
    rw [hh] at hh0
    cases hh0
    refine ⟨b, o, arr', T, rfl, h2, h0, by omega, by omega, lies_of (fun k x hk => ?_) ?_⟩
    · obtain ⟨us, hl, hre, hu⟩ := hys arr' h3 h4 h5 k x hk
      exact ⟨us, hl, RepE.mono ext.cells ext.ok hre, hu⟩
    · obtain ⟨sp, s1, s2⟩ := hr.spare
      refine ⟨sp, by omega, fun k x hk => ?_⟩
      obtain ⟨us, a1, a2, a3⟩ := s2 k x hk
      refine ⟨us, a1, RepE.mono ext.cells ext.ok a2, fun j u hj => ?_⟩
      have := a3 j u hj
      rw [hxy]
      have hm := Nat.mul_le_mul_right t.size (show xs.length ≤ xs.length + k by omega)
      rw [h4 _ (.inr (by omega))]
      exact this
end
end Go.Sk
