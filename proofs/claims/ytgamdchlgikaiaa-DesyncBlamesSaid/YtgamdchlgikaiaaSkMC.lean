/- clear, as the evaluator's. -/
import Derived.Test.YtgamdchlgikaiaaSkMM
set_option linter.unusedSimpArgs false
set_option linter.unusedVariables false
set_option linter.unusedSectionVars false
namespace Go.Sk
open Go
section
variable {P : Program} {X : Fr} {env : List V} {mem : List Obj} {al : Nat → Prop} {tmps : Array Value} {w : World} {β : Nat → Value} {ok : Nat → Prop}

/-- a piece of an owned row written -/
theorem segWrite (h : Inv X env mem al tmps w β ok) {k : Nat} {t : Ty} {xs ys : List (El t)} (hm : mem.getD k .dead = .row t xs) {of : Nat} (hle : of + ys.length ≤ xs.length) {news : List Value} (hy : Cells w ok t ys news) {bb o n' cp : Nat} (hβ : β k = .slice (some ⟨bb, o, none⟩) n' cp) {arr : Array Value} {T : TypeId}
    (hh : w.heap[bb]? = some (.cells arr T (0, 0))) (h0 : 0 < cp) (hxc : xs.length ≤ cp) (hsz : o + cp * t.size ≤ arr.size) (hrows : Lies w ok t xs cp o arr) :
    Inv X env (wr mem k (.row t (xs.take of ++ ys ++ xs.drop (of + ys.length)))) al tmps (w.setCells bb (o + of * t.size) news) β ok := by
  have hmul : (of + ys.length) * t.size ≤ cp * t.size := Nat.mul_le_mul_right _ (by omega)
  rw [Nat.add_mul] at hmul
  have hin : o + of * t.size + news.length ≤ arr.size := by rw [hy.length]; omega
  refine h.rowWrite (ys := xs.take of ++ ys ++ xs.drop (of + ys.length)) hm (by simp; omega) hβ (by omega) hh hin (by
    have : (of + ys.length) * t.size ≤ xs.length * t.size := Nat.mul_le_mul_right _ (by omega)
    rw [Nat.add_mul] at this
    rw [hy.length]
    omega) fun arr' hs1 hs2 hs3 j x hj => ?_
  rw [spl_get (by omega)] at hj
  by_cases h1 : j < of
  · rw [if_pos h1] at hj
    obtain ⟨us, a1, a2, a3⟩ := hrows j x hj
    refine ⟨us, a1, a2, fun q u hq => ?_⟩
    have hq2 : q < t.size := by rw [← a1]; exact (List.getElem?_eq_some_iff.1 hq).1
    have hb2 : (j + 1) * t.size ≤ of * t.size := Nat.mul_le_mul_right _ (by omega)
    rw [Nat.add_mul] at hb2
    rw [hs2 _ (.inl (by omega))]
    exact a3 q u hq
  · rw [if_neg h1] at hj
    by_cases h2 : j < of + ys.length
    · rw [if_pos h2] at hj
      obtain ⟨us, a1, a2, a3⟩ := hy.at_ (j - of) x hj
      refine ⟨us, a1, a2, fun q u hq => ?_⟩
      have := hs3 ((j - of) * t.size + q) u (a3 q u hq)
      have e8 : j * t.size = of * t.size + (j - of) * t.size := by rw [← Nat.add_mul]; congr 1; omega
      rw [← this]; congr 1; omega
    · rw [if_neg h2] at hj
      obtain ⟨us, a1, a2, a3⟩ := hrows j x hj
      refine ⟨us, a1, a2, fun q u hq => ?_⟩
      have hb2 : (of + ys.length) * t.size ≤ j * t.size := Nat.mul_le_mul_right _ (by omega)
      rw [Nat.add_mul] at hb2
      rw [hs2 _ (.inr (by rw [hy.length]; omega))]
      exact a3 q u hq

theorem zeroCells_eq (z : Array Value) (n : Nat) : (Builtin.zeroCells z n).toList = (List.replicate n z.toList).flatten := by
  unfold Builtin.zeroCells
  apply List.ext_getElem?
  intro j
  have hl : ∀ n, ((List.replicate n z.toList).flatten).length = n * z.size := by intro n; simp
  by_cases hj : j < n * z.size
  · have hz : 0 < z.size := by
      rcases Nat.eq_zero_or_pos z.size with h | h
      · rw [h] at hj; omega
      · exact h
    have hr : ∀ (n j : Nat), j < n * z.size → ((List.replicate n z.toList).flatten)[j]? = z[j % z.size]? := by
      intro n
      induction n with
      | zero => intro j hj; omega
      | succ n ih =>
        intro j hj
        rw [List.replicate_succ, List.flatten_cons]
        by_cases h1 : j < z.size
        · rw [List.getElem?_append_left (by simpa using h1), Nat.mod_eq_of_lt h1]; simp
        · rw [List.getElem?_append_right (by simp; omega)]
          rw [show j - z.toList.length = j - z.size by simp, ih (j - z.size) (by rw [Nat.add_mul] at hj; omega)]
          rw [Nat.mod_eq_sub_mod (by omega : j ≥ z.size)]
    rw [hr n j hj]
    have hm : j % z.size < z.size := Nat.mod_lt _ hz
    simp [hj, hm]
  · rw [List.getElem?_eq_none (by simp; omega), List.getElem?_eq_none (by rw [hl]; omega)]

theorem cells_replicate {t : Ty} {x : El t} {us : List Value} (h : RepE w ok t x us) (n : Nat) : Cells w ok t (List.replicate n x) (List.replicate n us).flatten := by
  have hl := h.length
  refine ⟨by simp [hl], fun k y hk => ?_, fun u hu => ?_⟩
  · have hkn : k < n := by have := (List.getElem?_eq_some_iff.1 hk).1; simpa using this
    have hy : y = x := by rw [List.getElem?_replicate, if_pos hkn] at hk; simpa using hk.symm
    subst hy
    refine ⟨us, hl, h, fun j u hj => ?_⟩
    have hj2 : j < us.length := (List.getElem?_eq_some_iff.1 hj).1
    have key : ∀ (n k : Nat), k < n → ((List.replicate n us).flatten)[k * us.length + j]? = us[j]? := by
      intro n
      induction n with
      | zero => intro k hk; omega
      | succ n ih =>
        intro k hk
        rw [List.replicate_succ, List.flatten_cons]
        cases k with
        | zero => rw [List.getElem?_append_left (by omega)]; simp
        | succ k =>
          rw [List.getElem?_append_right (by rw [Nat.add_mul]; omega)]
          have : (k + 1) * us.length + j - us.length = k * us.length + j := by rw [Nat.add_mul]; omega
          rw [this]
          exact ih k (by omega)
    rw [← hl, key n k hkn]
    exact hj
  · obtain ⟨l, hl1, hl2⟩ := List.mem_flatten.1 hu
    rw [(List.mem_replicate.1 hl1).2] at hl2
    exact h.one u hl2

theorem clear_sound (h : Inv X env mem al tmps w β ok) {t ty : TypeId} {ts : List TypeId} {a : CV} {av : Value} (ha : RelC w ok X.rd β (kds mem) al a av) {out : Out} (hr : (clearC P t a).run1 mem = some out) :
    ∃ w', (Builtin.clear_ (t :: ts).toArray ty #[av]).run P w = .ok (.tuple #[]) w' ∧ Inv X env (wrs mem out.ws) al tmps w' β ok ∧ out.v = .tup [] := by
  unfold clearC at hr
  split at hr
  · rename_i te bytes sz z hE hz0
    have hE := elemInfo_spec hE
    obtain ⟨e, i, zv, hu, hi, hz, hsz, hby, hzs, hzr⟩ := hE.ex
    have hst : te.size = sz := hE.size
    have hzz : zeroCells P e = some z := by unfold elemZero at hz0; rw [hu] at hz0; exact hz0
    obtain ⟨i', zv', hi', hz', hl⟩ := zero_rel (X := X) (w := w) (ok := ok) (β := β) (al := al) hzz
    rw [hi] at hi'
    cases hi'
    rw [hz] at hz'
    cases hz'
    have hzrun : (zeroValue e).run P w = .ok zv w := by simp [zeroValue, typeInfo, hi, hz]
    -- one piece
    have main : ∀ (x : El te), decAll te z = some x → ∀ (k of n : Nat) (t' : Ty) (xs : List (El t')), mem.getD k .dead = .row t' xs → ∀ (hte : t' = te), of + n ≤ xs.length → ∀ (A A' : Option Addr) (n' cp : Nat), β k = .slice A n' cp → av = .slice A' n (cp - of) → (∀ b q, A = some ⟨b, q, none⟩ → cp ≠ of → A' = some ⟨b, q + of * t'.size, none⟩) →
        ∃ w', (Builtin.clear_ (t :: ts).toArray ty #[av]).run P w = .ok (.tuple #[]) w' ∧ Inv X env (wr mem k (.row te ((hte ▸ xs : List (El te)).take of ++ List.replicate n x ++ (hte ▸ xs : List (El te)).drop (of + n)))) al tmps w' β ok := by
      intro x hx k of n t' xs hm hte hle A A' n' cp hβ hav hA
      subst hte
      simp only
      have hrep : RepE w ok t' x zv.cells.toList := rel_decAll hx (hl (kds mem))
      have hob := h.obj k
      rw [hm] at hob
      obtain ⟨A2, c2, hb2, hob⟩ := hob
      rw [hβ] at hb2
      cases hb2
      by_cases hn : n = 0
      · subst hn
        refine ⟨w, ?_, (h.congr (fun j => ?_)).2⟩
        · rw [hav]
          cases A' <;> simp [Builtin.clear_, run_underlying hu]
        · rw [wr_getD]
          split
          · rename_i e; rw [e, hm]; simp
          · rfl
      · rcases hob with ⟨rfl, rfl⟩ | ⟨bb, o, arr, T, rfl, hh, h0, hxc, hsz2, hrows⟩
        · simp at hle; omega
        · have hAe := hA bb o rfl (by omega)
          subst hAe
          have hc := cells_replicate hrep n
          have hI := segWrite h hm (of := of) (ys := List.replicate n x) (by simpa using hle) hc hβ hh h0 hxc hsz2 hrows
          have hnl : (List.replicate n zv.cells.toList).flatten.length = n * t'.size := by rw [hc.length]; simp
          have hmul : (of + n) * t'.size ≤ cp * t'.size := Nat.mul_le_mul_right _ (by omega)
          rw [Nat.add_mul] at hmul
          refine ⟨_, ?_, by simpa using hI⟩
          have hst2 := run_storeCells_cells (P := P) bb (o + of * t'.size) (List.replicate n zv.cells.toList).flatten 0 w (fun j hj => by simp [World.cell?, hh]; omega) (fun j hj => by simp [World.frozen?, hh]) (fun u hu => by
            obtain ⟨l, hl1, hl2⟩ := List.mem_flatten.1 hu
            rw [(List.mem_replicate.1 hl1).2] at hl2
            exact hrep.one u hl2)
          rw [hav]
          obtain ⟨m, rfl⟩ : ∃ m, n = m + 1 := ⟨n - 1, by omega⟩
          simp only [Builtin.clear_]
          simp [run_underlying hu, hzrun, zeroCells_eq, hst2]
    split at hr
    · rename_i x k hx
      simp only [Rd.run1_get] at hr
      have hob := h.obj k
      cases hm : mem.getD k .dead <;> rw [hm] at hr hob <;> try (cases hr; done)
      rename_i t' xs0
      obtain ⟨xs, hxs, hr2⟩ := bind_run1 hr
      clear hr
      rw [Rd.run1_ofOption] at hxs
      obtain ⟨e0, hxs⟩ := decS_spec hxs
      obtain rfl := ret_run1 hr2
      obtain ⟨A, c, hβ, _⟩ := hob
      have hav := ha.osl_inv (by show (mem.getD k .dead).kd ≠ _; rw [hm]; simp [Obj.kd])
      obtain ⟨w', h1, h2⟩ := main x hx k 0 xs0.length t' xs0 hm e0 (by omega) A A _ c hβ (by rw [hav, hβ]; rfl) (fun b q e _ => by simp [e])
      refine ⟨w', h1, ?_, rfl⟩
      subst e0
      replace hxs : xs = xs0 := hxs
      subst hxs
      show Inv X env (wr mem k _) al tmps w' β ok
      simpa using h2
    · rename_i x k of n hx
      simp only [Rd.run1_get] at hr
      have hob := h.obj k
      cases hm : mem.getD k .dead <;> rw [hm] at hr hob <;> try (cases hr; done)
      rename_i t' xs0
      obtain ⟨xs, hxs, hr2⟩ := bind_run1 hr
      clear hr
      rw [Rd.run1_ofOption] at hxs
      obtain ⟨e0, hxs⟩ := decS_spec hxs
      obtain ⟨hg, hr2⟩ := guard_run1 hr2
      obtain rfl := ret_run1 hr2
      obtain ⟨A, n', cp, A', hβ, hav, hcp, hA⟩ : ∃ A n' c A', β k = .slice A n' c ∧ av = .slice A' n (c - of) ∧ of + n ≤ c ∧ (∀ b q, A = some ⟨b, q, none⟩ → c ≠ of → A' = some ⟨b, q + of * t'.size, none⟩) := by
        cases ha with
        | ovw _ _ _ _ hi hp h1 => exact hp t' (by show (mem.getD k .dead).kd = _; rw [hm]; rfl)
      subst e0
      replace hxs : xs = xs0 := hxs
      subst hxs
      obtain ⟨w', h1, h2⟩ := main x hx k of n t' xs hm rfl (by simpa using hg) A A' n' cp hβ hav hA
      exact ⟨w', h1, h2, rfl⟩
    · cases hr
  · cases hr
end
end Go.Sk
