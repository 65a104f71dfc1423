/- make, append and copy, as the evaluator's. -/
import Derived.Test.YtgamdchlgikaiaaSkJ
set_option linter.unusedSimpArgs false
set_option linter.unusedVariables false
set_option linter.unusedSectionVars false
namespace Go.Sk
open Go
section
variable {P : Program} {X : Fr} {env : List V} {mem : List Obj} {al : Nat → Prop} {tmps : Array Value} {w : World} {β : Nat → Value} {ok : Nat → Prop}

theorem RepE.sizeL {t : Ty} {x : El t} {us : List Value} (h : RepE w ok t x us) : us.length = t.size := h.length

theorem wrap_id {n : Int} (h0 : 0 ≤ n) (h1 : n ≤ 140737488355328) : IntKind.i64.wrap n = n := by
  have e : IntKind.i64.wrap n = (if (n % 18446744073709551616 : Int) ≥ 9223372036854775808 then n % 18446744073709551616 - 18446744073709551616 else n % 18446744073709551616) := by
    unfold IntKind.wrap
    simp [IntKind.bits, IntKind.signed]
  rw [e]
  split <;> omega

/-- the row of a slice that reads, as the cells of a source -/
theorem src_of {t tx : TypeId} {te : Ty} {A : Option Addr} {c sz : Nat} {ys : List (El te)} (hk : ∃ e', P.underlying tx = some (.slice e')) (hs : te.size = sz)
    (h : ys = [] ∨ ∃ b o, A = some ⟨b, o, none⟩ ∧ ∀ k x, ys[k]? = some x → ∃ us, us.length = te.size ∧ RepE w ok te x us ∧ ∀ j u, us[j]? = some u → w.cell? ⟨b, o + k * te.size + j, none⟩ = some u) :
    ∃ news, Src P sz tx (.slice A ys.length c) ys.length news w ∧ Cells w ok te ys news := by
  subst hs
  obtain ⟨e', hk⟩ := hk
  rcases h with rfl | ⟨b, o, rfl, h⟩
  · refine ⟨[], ?_, ⟨by simp, by simp, by simp⟩⟩
    cases A with
    | none => exact Src.ofNil w hk c
    | some a => exact Src.ofSlice w hk a 0 c [] (by simp) (by simp) (by simp)
  · obtain ⟨news, h1, h2, h3, h4⟩ := cells_of_rows (R := fun x us => RepE w ok te x us) ys (fun i => w.cell? ⟨b, o + i, none⟩) (fun k x hk => by
      obtain ⟨us, a1, a2, a3⟩ := h k x hk
      exact ⟨us, a1, a2, fun j u hj => by have := a3 j u hj; rwa [Nat.add_assoc] at this⟩)
    have one : ∀ u ∈ news, u.oneCell' = true := fun u hu => by
      obtain ⟨x, us, hr, hm⟩ := h4 u hu
      exact hr.one u hm
    exact ⟨news, Src.ofSlice w hk _ _ c news h1 (fun j u hj => by rw [addr_add]; exact h2 j u hj) one, ⟨h1, h3, one⟩⟩

theorem rel_src (ho : ∀ i, ObjRel w ok X.rd β (kds mem) al i (mem.getD i .dead)) {tx : TypeId} {te : Ty} {sz : Nat} {b : CV} {bv : Value} (hs : te.size = sz) (hok : srcOk P tx b = true) {ys : List (El te)} (hr : (srcElems te b).run1 mem = some ys) (hv : RelC w ok X.rd β (kds mem) al b bv) :
    ∃ news, Src P sz tx bv ys.length news w ∧ Cells w ok te ys news := by
  have hsl : b.isStr = false → ∃ e', P.underlying tx = some (.slice e') := by
    intro hb
    unfold srcOk at hok
    rw [hb] at hok
    cases hu : P.underlying tx with
    | none => rw [hu] at hok; cases hok
    | some d => rw [hu] at hok; cases d <;> first | (cases hok; done) | exact ⟨_, rfl⟩
  cases b <;> simp only [srcElems, elems, Rd.run1_fail, Rd.run1_ret, Option.some.injEq, Rd.run1_ofOption] at hr <;> try (cases hr; done)
  case str s =>
    cases hv
    have hst : P.underlying tx = some .string := by
      unfold srcOk at hok
      simp only [CV.isStr] at hok
      cases hu : P.underlying tx with
      | none => rw [hu] at hok; cases hok
      | some d => rw [hu] at hok; cases d <;> first | (cases hok; done) | rfl
    cases te <;> simp only [strElems, Rd.run1_fail, Rd.run1_ret, Option.some.injEq] at hr <;> try (cases hr; done)
    rename_i k
    cases k <;> simp only [strElems, Rd.run1_fail, Rd.run1_ret, Option.some.injEq] at hr <;> try (cases hr; done)
    subst hr
    have hs1 : sz = 1 := hs.symm
    subst hs1
    have hlen : (s.data.toList.map fun c => (c.toNat : Int)).length = s.size := by simp
    refine ⟨byteCells s, by rw [hlen]; exact Src.ofString w hst s, ⟨by rw [byteCells_length, hlen]; simp [Ty.size], fun k x hk => ?_, fun u hu => ?_⟩⟩
    · simp only [List.getElem?_map] at hk
      cases hq : s.data.toList[k]? with
      | none => rw [hq] at hk; cases hk
      | some q =>
        rw [hq] at hk
        simp at hk
        refine ⟨[.int .u8 x], rfl, rfl, fun j u hj => ?_⟩
        cases j with
        | zero =>
          simp at hj
          subst hj
          simp only [Ty.size, Nat.mul_one, Nat.add_zero, byteCells, List.getElem?_map, hq, Option.map_some, hk]
        | succ j => simp at hj
    · obtain ⟨q, _, rfl⟩ := List.mem_map.1 hu
      rfl
  case nils t' =>
    subst hr
    cases hv
    exact src_of (t := tx) (hsl rfl) hs (.inl rfl)
  case slc t' xs =>
    obtain ⟨rfl, rfl⟩ := decS_spec hr
    obtain ⟨A, c, rfl, hrow⟩ : ∃ A c, bv = .slice A ys.length c ∧ RowAt w ok (RepE w ok t') t'.size A ys := by cases hv; exact ⟨_, _, rfl, by assumption⟩
    refine src_of (t := tx) (ys := ys) (hsl rfl) hs ?_
    rcases hrow with h | ⟨b, o, e, _, h⟩
    · exact .inl h
    · exact .inr ⟨b, o, e, h⟩
  case clp t' xs =>
    obtain ⟨rfl, rfl⟩ := decS_spec hr
    obtain ⟨A, rfl, hrow⟩ : ∃ A, bv = .slice A ys.length ys.length ∧ RowAt w ok (RepE w ok t') t'.size A ys := by cases hv; exact ⟨_, rfl, by assumption⟩
    refine src_of (t := tx) (ys := ys) (hsl rfl) hs ?_
    rcases hrow with h | ⟨b, o, e, _, h⟩
    · exact .inl h
    · exact .inr ⟨b, o, e, h⟩
  case osl i =>
    simp only [Rd.run1_get] at hr
    have hob := ho i
    cases hm : mem.getD i .dead <;> rw [hm] at hr hob <;> simp only [Rd.run1_fail, Rd.run1_ofOption] at hr <;> try (cases hr; done)
    all_goals
      rename_i t' xs
      obtain ⟨rfl, rfl⟩ := decS_spec hr
      rw [hv.osl_inv (by show (mem.getD i .dead).kd ≠ _; rw [hm]; simp [Obj.kd])]
    · obtain ⟨A, c, hb, hob⟩ := hob
      rw [hb]
      refine src_of (t := tx) (ys := ys) (hsl rfl) hs ?_
      rcases hob with ⟨h, _⟩ | ⟨b, o, arr, T, rfl, hh, h0, hle, hsz, h⟩
      · exact .inl h
      · exact .inr ⟨b, o, rfl, fun k x hk => let ⟨us, h1, h2, h3⟩ := h k x hk; ⟨us, h1, h2, fun j u hj => by simp [World.cell?, hh, h3 j u hj]⟩⟩
    · obtain ⟨A, c, hb, hle, hob⟩ := hob
      simp at hb
      rw [hb]
      refine src_of (t := tx) (ys := ys) (hsl rfl) hs ?_
      rcases hob with h | ⟨b, o, e, _, h⟩
      · exact .inl h
      · exact .inr ⟨b, o, e, h⟩
  case ovw i of n =>
    simp only [Rd.run1_get] at hr
    have hob := ho i
    cases hm : mem.getD i .dead <;> rw [hm] at hr hob <;> try (cases hr; done)
    all_goals
      rename_i t' xs
      obtain ⟨xs', hx, hr2⟩ := bind_run1 hr
      clear hr
      rw [Rd.run1_ofOption] at hx
      obtain ⟨e0, hx⟩ := decS_spec hx
      subst e0
      replace hx : xs' = xs := hx
      subst hx
      obtain ⟨hle, hr2⟩ := guard_run1 hr2
      obtain rfl := ret_run1 hr2
      replace hle : of + n ≤ xs'.length := by simpa using hle
      obtain ⟨A, n', cp, A', hb, rfl, hcp, hA⟩ : ∃ A n' c A', β i = .slice A n' c ∧ bv = .slice A' n (c - of) ∧ of + n ≤ c ∧ (∀ b q, A = some ⟨b, q, none⟩ → c ≠ of → A' = some ⟨b, q + of * t'.size, none⟩) := by
        cases hv with
        | ovw _ _ _ _ hi hp h1 => exact hp t' (by show (mem.getD i .dead).kd = _; rw [hm]; rfl)
      have hlen : ((xs'.drop of).take n).length = n := by simp; omega
      have hget : ∀ k x, ((xs'.drop of).take n)[k]? = some x → xs'[of + k]? = some x := fun k x hk => by
        rw [List.getElem?_take] at hk
        split at hk
        · rwa [List.getElem?_drop] at hk
        · cases hk
      have key := src_of (w := w) (ok := ok) (P := P) (t := tx) (tx := tx) (te := t') (A := A') (c := cp - of) (sz := sz) (ys := (xs'.drop of).take n) (hsl rfl) hs
      rw [hlen] at key
      show ∃ news, Src P sz tx (.slice A' n (cp - of)) ((xs'.drop of).take n).length news w ∧ Cells w ok t' ((xs'.drop of).take n) news
      rw [hlen]
      refine key ?_
    · obtain ⟨A2, c2, hb2, hob⟩ := hob
      rw [hb] at hb2
      cases hb2
      by_cases hn : n = 0
      · exact .inl (by simp [hn])
      rcases hob with ⟨h, rfl⟩ | ⟨b, o, arr, T, rfl, hh, h0, hle, hsz, h⟩
      · omega
      · exact .inr ⟨b, _, hA b o rfl (by omega), fun k x hk => let ⟨us, h1, h2, h3⟩ := h _ x (hget k x hk); ⟨us, h1, h2, fun j u hj => by
          have := h3 j u hj
          rw [Nat.add_mul] at this
          simp [World.cell?, hh, ← this, Nat.add_assoc]⟩⟩
    · obtain ⟨A2, c2, hb2, hle2, hob⟩ := hob
      simp at hb2
      rw [hb] at hb2
      cases hb2
      by_cases hn : n = 0
      · exact .inl (by simp [hn])
      rcases hob with h | ⟨b, o, rfl, _, h⟩
      · subst h; simp at hle; omega
      · exact .inr ⟨b, _, hA b o rfl (by omega), fun k x hk => let ⟨us, h1, h2, h3⟩ := h _ x (hget k x hk); ⟨us, h1, h2, fun j u hj => by
          have := h3 j u hj
          rw [Nat.add_mul] at this
          rw [← this]
          simp [Nat.add_assoc]⟩⟩
end
end Go.Sk
