/- append, copy and make, as the evaluator's. -/
import Derived.Test.YtgamdchlgikaiaaSkK
import Derived.Deep.Upon
set_option linter.unusedSimpArgs false
set_option linter.unusedVariables false
set_option linter.unusedSectionVars false
namespace Go.Sk
open Go
section
variable {P : Program} {X : Fr} {env : List V} {mem : List Obj} {al : Nat → Prop} {tmps : Array Value} {w : World} {β : Nat → Value} {ok : Nat → Prop}

theorem Cells.replicate {te : Ty} {x : El te} {us : List Value} (h : RepE w ok te x us) : ∀ n, Cells w ok te (List.replicate n x) (List.replicate n us).flatten
  | 0 => ⟨by simp, by simp, by simp⟩
  | n + 1 => by
    rw [List.replicate_succ, List.replicate_succ, List.flatten_cons]
    exact Cells.append (xs := [x]) ⟨by simp [h.length], fun k y hk => by
      cases k with
      | zero => simp at hk; subst hk; exact ⟨us, h.length, h, fun j u hj => by simpa using hj⟩
      | succ k => simp at hk, h.one⟩ (Cells.replicate h n)


/-- what is asked of an element type -/
structure EI (P : Program) (t : TypeId) (te : Ty) (bytes sz : Nat) : Prop where
  ex : ∃ (e : TypeId) (i : TypeInfo) (z : Value), P.underlying t = some (.slice e) ∧ P.info? e = some i ∧ i.zero = some z ∧ i.size = sz ∧ i.bytes = bytes ∧ z.cells.size = sz ∧ ∀ (w : World) (ok : Nat → Prop), ∃ zx : El te, RepE w ok te zx z.cells.toList
  size : te.size = sz
  b0 : 0 < bytes
  s0 : 0 < sz
theorem elemInfo_spec {t : TypeId} {te : Ty} {bytes sz : Nat} (h : elemInfo P t = some (te, bytes, sz)) : EI P t te bytes sz := by
  unfold elemInfo at h
  split at h
  · rename_i e hu
    split at h
    · rename_i te' b' sz' z hte hb hs hz
      cases hc : (te'.size == sz' && decide (0 < b') && decide (0 < sz') && z.length == sz' && (decAll te' z).isSome) with
      | false => rw [hc] at h; cases h
      | true =>
        rw [hc] at h
        simp at h hc
        obtain ⟨rfl, rfl, rfl⟩ := h
        obtain ⟨i, zv, hi, hz', hl⟩ := zero_rel (X := { w0 := default, ok0 := fun _ => False, own0 := fun _ => False, rd := fun _ => False, gh := undef }) (w := default) (ok := fun _ => False) (β := fun _ => undef) (al := fun _ => False) hz
        have h1 : i.size = sz' := by unfold sizeAt at hs; rw [hi] at hs; simpa using hs
        have h2 : i.bytes = b' := by unfold bytesAt at hb; rw [hi] at hb; simpa using hb
        have h3 : zv.cells.size = sz' := by have := (hl fun _ => .none).1; simp at this; omega
        refine ⟨⟨e, i, zv, hu, hi, hz', h1, h2, h3, fun w ok => ?_⟩, hc.1.1.1.1, hc.1.1.1.2, hc.1.1.2⟩
        obtain ⟨zx, hzx⟩ := Option.isSome_iff_exists.1 hc.2
        obtain ⟨i2, zv2, hi2, hz2, hl2⟩ := zero_rel (X := { w0 := default, ok0 := fun _ => False, own0 := fun _ => False, rd := fun _ => False, gh := undef }) (w := w) (ok := ok) (β := fun _ => undef) (al := fun _ => False) hz
        rw [hi] at hi2
        cases hi2
        rw [hz'] at hz2
        cases hz2
        exact ⟨zx, rel_decAll hzx (hl2 fun _ => .none)⟩
    · cases h
  · cases h

/-- the arm that grows -/
theorem grow_left (h : Inv X env mem al tmps w β ok) {t tx ty : TypeId} {te : Ty} {bytes sz : Nat} (hE : EI P t te bytes sz) {id : Nat} (hid : ¬ al id) {base : Option Addr} {sLen sCap : Nat} {olds : List Value} {xs ys : List (El te)} {news : List Value}
    (hold : (Builtin.firstCells sz sLen (.slice base sLen sCap)).run P w.drew = .ok olds.toArray w.drew) (hx : Cells w ok te xs olds) (hxl : xs.length = sLen) {x : Value} (hs : Src P sz tx x ys.length news w) (hy : Cells w ok te ys news)
    (hg : sCap < sLen + ys.length) (hb : (sLen + ys.length) * bytes ≤ 140737488355328) (D : Nat → Bool) (hD : ∀ i, D i = true → al i)
    {mem' : List Obj} (hm : ∀ i, mem'.getD i .dead = if i = id then .row te (xs ++ ys) else if D i = true then .dead else mem.getD i .dead) :
    ∃ v w' β', (Builtin.append_ #[t, tx] ty #[.slice base sLen sCap, x]).run P w = .ok v w' ∧ Inv X env mem' (fun i => al i ∨ i = id) tmps w' β' ok ∧ RelC w' ok X.rd β' (kds mem') (fun i => al i ∨ i = id) (.osl id) v := by
  obtain ⟨e, i, z, hu, hi, hz, hsz, hby, hzs, hzr⟩ := hE.ex
  subst hsz
  subst hby
  have hmul : sLen + ys.length ≤ (sLen + ys.length) * i.bytes := Nat.le_mul_of_pos_right _ hE.b0
  have h63 : ((sLen + ys.length : Nat) : Int) ≤ 9223372036854775807 := by omega
  have hfit : Builtin.nextslicecap (sLen + ys.length) sCap * i.bytes ≤ 281474976710656 := by
    have h1 := Nat.mul_le_mul_right i.bytes (nextslicecap_le hg)
    rw [Nat.mul_assoc] at h1
    omega
  have hrun := run_append_grow_src (P := P) w t tx ty e i z hu hi hz base sLen sCap olds hold x ys.length news hs hg h63 hfit
  have hcap := grownCap_ge w (sLen + ys.length) sCap e
  generalize hc : grownCap w (sLen + ys.length) sCap e = cp at hrun hcap
  have hcs := hx.append hy
  have hlen : (olds ++ news).length = (sLen + ys.length) * te.size := by rw [hcs.length, List.length_append, hxl]
  obtain ⟨hN, hR⟩ := h.newRow (id := id) hid (t := te) (xs := xs ++ ys) (arr := (olds ++ news).toArray ++ Builtin.zeroCells z.cells (cp - (sLen + ys.length))) (c := cp) (T := e) (w1 := w.drew) rfl rfl rfl rfl D hD hcs
    (fun j u hj => by
      have : j < (olds ++ news).length := by
        rcases Nat.lt_or_ge j (olds ++ news).length with h | h
        · exact h
        · rw [List.getElem?_eq_none h] at hj; cases hj
      rw [Array.getElem?_append, if_pos (by simpa using this)]
      simpa using hj)
    (by rw [List.length_append, hxl]; exact hcap) (by omega)
    (by
      have hz2 : (Builtin.zeroCells z.cells (cp - (sLen + ys.length))).size = (cp - (sLen + ys.length)) * te.size := by simp [Builtin.zeroCells, hzs, hE.size]
      rw [Array.size_append, hz2, List.size_toArray, hlen, ← Nat.add_mul]
      exact Nat.mul_le_mul_right _ (by omega))
    (by
      obtain ⟨zx, hzx⟩ := hzr w ok
      have hzl : (Builtin.zeroCells z.cells (cp - (sLen + ys.length))).toList = (List.replicate (cp - (sLen + ys.length)) z.cells.toList).flatten := range_zero z.cells _ _ rfl
      refine ⟨List.replicate (cp - (sLen + ys.length)) zx, by simp [hxl]; omega, fun k x hk => ?_⟩
      obtain ⟨us, a1, a2, a3⟩ := (Cells.replicate hzx _).at_ k x hk
      refine ⟨us, a1, a2, fun j u hj => ?_⟩
      have h3 := a3 j u hj
      rw [← hzl] at h3
      have hge : ((olds ++ news).toArray).size ≤ ((xs ++ ys).length + k) * te.size + j := by
        rw [List.size_toArray, hlen, List.length_append, hxl, Nat.add_mul (sLen + ys.length)]
        omega
      rw [Array.getElem?_append_right hge, ← Array.getElem?_toList]
      rw [← h3]
      congr 1
      rw [List.size_toArray, hlen, List.length_append, hxl, Nat.add_mul (sLen + ys.length)]
      omega) hm
  have hl2 : (xs ++ ys).length = sLen + ys.length := by rw [List.length_append, hxl]
  rw [hl2] at hN hR
  exact ⟨_, _, _, hrun, hN, hR⟩

/-- the cells of a row that is owned or read, as the head of an append's result -/
theorem olds_of {te : Ty} {xs : List (El te)} {A : Option Addr} {c sz : Nat} (hs : te.size = sz)
    (h : xs = [] ∨ ∃ b o, A = some ⟨b, o, none⟩ ∧ ∀ k x, xs[k]? = some x → ∃ us, us.length = te.size ∧ RepE w ok te x us ∧ ∀ j u, us[j]? = some u → w.cell? ⟨b, o + k * te.size + j, none⟩ = some u) :
    ∃ olds, (Builtin.firstCells sz xs.length (.slice A xs.length c)).run P w.drew = .ok olds.toArray w.drew ∧ Cells w ok te xs olds := by
  subst hs
  have hbase : ∀ {A : Option Addr}, xs = [] → ∃ olds, (Builtin.firstCells te.size xs.length (.slice A xs.length c)).run P w.drew = .ok olds.toArray w.drew ∧ Cells w ok te xs olds := by
    intro A hx
    subst hx
    refine ⟨[], ?_, ⟨by simp, by simp, by simp⟩⟩
    cases A with
    | none => rfl
    | some a => exact run_firstCells_some (P := P) w.drew te.size 0 a 0 c [] (by simp) (by simp)
  rcases h with h | ⟨b, o, rfl, h⟩
  · exact hbase h
  · obtain ⟨news, h1, h2, h3, h4⟩ := cells_of_rows (R := fun x us => RepE w ok te x us) xs (fun i => w.cell? ⟨b, o + i, none⟩) (fun k x hk => by
      obtain ⟨us, a1, a2, a3⟩ := h k x hk
      exact ⟨us, a1, a2, fun j u hj => by have := a3 j u hj; rwa [Nat.add_assoc] at this⟩)
    exact ⟨news, run_firstCells_some (P := P) w.drew te.size xs.length ⟨b, o, none⟩ xs.length c news h1 (fun j u hj => by rw [addr_add]; exact h2 j u hj), ⟨h1, h3, fun u hu => by
      obtain ⟨x, us, hr, hm⟩ := h4 u hu
      exact hr.one u hm⟩⟩
end
end Go.Sk
