/- copy, make, len, min and max, and all built-ins at once. -/
import Derived.Test.YtgamdchlgikaiaaSkMC
import Derived.Laws.MakeOwn
set_option linter.unusedSimpArgs false
set_option linter.unusedVariables false
set_option linter.unusedSectionVars false
namespace Go.Sk
open Go
section
variable {P : Program} {X : Fr} {env : List V} {mem : List Obj} {al : Nat → Prop} {tmps : Array Value} {w : World} {β : Nat → Value} {ok : Nat → Prop}

theorem load_same {a : Addr} {u : Value} {w' : World} (h : (load a).run P w = .ok u w') : w' = w := by
  rw [run_load] at h
  split at h
  · cases h; rfl
  · split at h
    · cases h; rfl
    · cases h
theorem lcf_inv (a : Addr) : ∀ (n i : Nat) (acc r : Array Value) (w' : World), (loadCellsFrom a i n acc).run P w = .ok r w' →
    w' = w ∧ ∃ l : List Value, l.length = n ∧ r = (acc.toList ++ l).toArray ∧ ∀ m, m ≤ n → (loadCellsFrom a i m acc).run P w = .ok (acc.toList ++ l.take m).toArray w
  | 0, i, acc, r, w', h => by
    simp [loadCellsFrom] at h
    obtain ⟨rfl, rfl⟩ := h
    exact ⟨rfl, [], rfl, by simp, fun m hm => by have : m = 0 := by omega
                                                 subst this; simp [loadCellsFrom]⟩
  | n + 1, i, acc, r, w', h => by
    unfold loadCellsFrom at h
    rw [Sem.run_bind] at h
    cases hl : (load (a.add i)).run P w with
    | ok u w1 =>
      have e := load_same hl
      rw [e] at hl
      rw [hl] at h
      obtain ⟨e2, l, h1, h2, h3⟩ := lcf_inv a n (i + 1) (acc.push u) r w' h
      refine ⟨e2, u :: l, by simp [h1], by rw [h2]; simp, fun m hm => ?_⟩
      cases m with
      | zero => simp [loadCellsFrom]
      | succ m =>
        unfold loadCellsFrom
        rw [Sem.run_bind, hl]
        have := h3 m (by omega)
        simp only [Result.andThen_ok, this]
        simp
    | _ => rw [hl] at h; cases h

/-- a source's first elements -/
theorem _root_.Go.Src.take {size n m : Nat} {tx : TypeId} {x : Value} {news : List Value} (hs : Src P size tx x n news w) (hm : m ≤ n) : (Builtin.firstCells size m x).run P w = .ok (news.take (m * size)).toArray w := by
  have hc := hs.cells
  have hnl := hs.newsLen
  cases x <;> simp only [Builtin.firstCells] at hc ⊢ <;> try (simp [stuck] at hc; done)
  case string s =>
    have hn : s.size = n := by have := hs.len w; simpa [Builtin.lenOf] using this
    subst hn
    simp at hc
    have hnews : news = s.data.toList.map fun b => Value.int .u8 b.toNat := by
      have := congrArg Array.toList hc
      simpa using this.symm
    have hdl : news.length = s.size := by rw [hnews]; simp
    by_cases h0 : s.size = 0
    · have : m = 0 := by omega
      subst this
      simp
    · have h1 : size = 1 := by
        rw [hdl] at hnl
        have : s.size * 1 = s.size * size := by omega
        exact (Nat.eq_of_mul_eq_mul_left (by omega) this).symm
      subst h1
      simp only [Sem.run_pure, Result.ok.injEq, and_true]
      apply Array.ext'
      rw [hnews]
      simp [List.map_take]
  case slice A l c =>
    cases A with
    | none =>
      simp at hc
      subst hc
      simp
    | some a =>
      simp only [loadCells] at hc ⊢
      obtain ⟨_, l, h1, h2, h3⟩ := lcf_inv a _ 0 #[] _ _ hc
      simp at h2
      subst h2
      have := h3 (m * size) (Nat.mul_le_mul_right _ hm)
      simpa using this

theorem run_copy_src (dT sT ty e : TypeId) (i : TypeInfo) (ht : P.underlying dT = some (.slice e)) (hi : P.info? e = some i) (b o dLen dCap : Nat) (x : Value) (n : Nat) (news : List Value) (hs : Src P i.size sT x n news w)
    (hc : ∀ j, j < min n dLen * i.size → (w.cell? ⟨b, o + j, none⟩).isSome = true) (hf : ∀ j, j < min n dLen * i.size → w.frozen? ⟨b, o + j, none⟩ = false) :
    (Builtin.copy_ #[dT, sT] ty #[.slice (some ⟨b, o, none⟩) dLen dCap, x]).run P w = .ok (goInt (min n dLen : Nat)) (w.setCells b o (news.take (min n dLen * i.size))) := by
  have hl : (news.take (min n dLen * i.size)).length ≤ min n dLen * i.size := by simp; omega
  have hst := run_storeCells_cells (P := P) b o (news.take (min n dLen * i.size)) 0 w (fun j hj => hc _ (by omega)) (fun j hj => hf _ (by omega)) (fun u hu => hs.one u (List.mem_of_mem_take hu))
  have hfc := hs.take (m := min n dLen) (Nat.min_le_left _ _)
  have e1 : n.min dLen = min n dLen := rfl
  simp [Builtin.copy_, run_underlying ht, sizeOf, typeInfo, hi, hs.len, e1, hfc, hst]
theorem run_copy_zero (dT sT ty e : TypeId) (i : TypeInfo) (ht : P.underlying dT = some (.slice e)) (hi : P.info? e = some i) (A : Option Addr) (dLen dCap : Nat) (x : Value) (n : Nat) (news : List Value) (hs : Src P i.size sT x n news w)
    (h0 : min n dLen = 0) :
    (Builtin.copy_ #[dT, sT] ty #[.slice A dLen dCap, x]).run P w = .ok (goInt 0) w := by
  have hfc := hs.take (m := min n dLen) (Nat.min_le_left _ _)
  have e1 : n.min dLen = min n dLen := rfl
  rw [h0] at hfc
  cases A <;> simp [Builtin.copy_, run_underlying ht, sizeOf, typeInfo, hi, hs.len, e1, hfc, h0, storeCells]

theorem copy_sound (h : Inv X env mem al tmps w β ok) {t tx ty : TypeId} {a b : CV} {av bv : Value} (ha : RelC w ok X.rd β (kds mem) al a av) (hb : RelC w ok X.rd β (kds mem) al b bv) {out : Out}
    (hr : (copyC P t tx (.one a) (.one b)).run1 mem = some out) :
    ∃ v w' β' ok', (Builtin.copy_ #[t, tx] ty #[av, bv]).run P w = .ok v w' ∧ Inv X env (wrs mem out.ws) al tmps w' β' ok' ∧ RelV w' ok' X.rd β' (kds (wrs mem out.ws)) al out.v v := by
  unfold copyC at hr
  split at hr
  · rename_i te bytes sz a' b' hE e1 e2
    cases e1
    cases e2
    have hE := elemInfo_spec hE
    cases hok : srcOk P tx b with
    | false => rw [hok] at hr; cases hr
    | true =>
    rw [hok] at hr
    obtain ⟨ys, hys, hr⟩ := bind_run1 (x := srcElems te b) hr
    obtain ⟨news, hs, hy⟩ := rel_src h.obj hE.size hok hys hb
    obtain ⟨e, i, z, hu, hi, hz, hsz, hby, hzs, hzr⟩ := hE.ex
    have hst : te.size = sz := hE.size
    cases a with
    | nils t' =>
      cases ha
      obtain rfl := ret_run1 hr
      exact ⟨_, w, β, ok, run_copy_zero t tx ty e i hu hi none 0 0 bv ys.length news (by rw [hsz]; exact hs) (by simp), h, .one _ _ (.int .i64 0)⟩
    | osl k =>
      simp only [Rd.run1_get] at hr
      have hob := h.obj k
      cases hm : mem.getD k .dead <;> rw [hm] at hr hob <;> try (cases hr; done)
      rename_i t' xs0
      obtain ⟨xs, hx, hr2⟩ := bind_run1 hr
      clear hr
      rw [Rd.run1_ofOption] at hx
      obtain ⟨e0, hx⟩ := decS_spec hx
      subst e0
      replace hx : xs = xs0 := hx
      subst hx
      obtain rfl := ret_run1 hr2
      obtain ⟨A, c, hβ, hob⟩ := hob
      rw [ha.osl_inv (by show (mem.getD k .dead).kd ≠ _; rw [hm]; simp [Obj.kd]), hβ]
      by_cases h0 : min ys.length xs.length = 0
      · have hsame : ys.take xs.length ++ xs.drop ys.length = xs := by
          rcases Nat.eq_zero_or_pos xs.length with hx0 | hx0
          · rw [hx0]; simp; have : xs = [] := List.eq_nil_of_length_eq_zero hx0; simp [this]
          · have : ys = [] := List.eq_nil_of_length_eq_zero (by omega)
            simp [this]
        have hI : Inv X env (wr mem k (.row t' (ys.take xs.length ++ xs.drop ys.length))) al tmps w β ok := (h.congr (fun j => by
          rw [wr_getD]
          split
          · rename_i e; rw [e, hm, hsame]
          · rfl)).2
        exact ⟨_, w, β, ok, run_copy_zero t tx ty e i hu hi A _ _ bv ys.length news (by rw [hsz]; exact hs) h0, hI, .one _ _ (by rw [h0]; exact .int .i64 0)⟩
      · rcases hob with ⟨rfl, rfl⟩ | ⟨bb, o, arr, T, rfl, hh, h0', hle, hsz2, hrows⟩
        · simp at h0
        · have hmul : min ys.length xs.length * t'.size ≤ c * t'.size := Nat.mul_le_mul_right _ (by omega)
          have hnl : (news.take (min ys.length xs.length * i.size)).length = min ys.length xs.length * t'.size := by
            have h1 : min ys.length xs.length * t'.size ≤ ys.length * t'.size := Nat.mul_le_mul_right _ (by omega)
            rw [List.length_take, hy.length, hsz, ← hst]
            omega
          have hin : o + (news.take (min ys.length xs.length * i.size)).length ≤ arr.size := by omega
          have hrun := run_copy_src (P := P) (w := w) t tx ty e i hu hi bb o xs.length c bv ys.length news (by rw [hsz]; exact hs)
            (fun j hj => by rw [hsz, ← hst] at hj; simp [World.cell?, hh]; omega) (fun j hj => by simp [World.frozen?, hh])
          have hI := h.rowWrite (ys := ys.take xs.length ++ xs.drop ys.length) hm (by simp; omega) hβ (by omega) hh hin (by
            have : min ys.length xs.length * t'.size ≤ xs.length * t'.size := Nat.mul_le_mul_right _ (by omega)
            omega) fun arr' hs1 hs2 hs3 j x hj => by
            by_cases h1 : j < min ys.length xs.length
            · rw [List.getElem?_append_left (by simp; omega), List.getElem?_take, if_pos (by omega)] at hj
              obtain ⟨us, a1, a2, a3⟩ := hy.at_ j x hj
              refine ⟨us, a1, a2, fun q u hq => ?_⟩
              have hq2 : q < t'.size := by rw [← a1]; exact (List.getElem?_eq_some_iff.1 hq).1
              have hb2 : (j + 1) * t'.size ≤ min ys.length xs.length * t'.size := Nat.mul_le_mul_right _ (by omega)
              rw [Nat.add_mul] at hb2
              have := hs3 (j * t'.size + q) u (by rw [List.getElem?_take, if_pos (by rw [hsz, ← hst]; omega)]; exact a3 q u hq)
              rw [← this]; congr 1; omega
            · have hj' : xs[j]? = some x := by
                have hxl : j < xs.length := by
                  have := (List.getElem?_eq_some_iff.1 hj).1
                  simp at this; omega
                rw [List.getElem?_append_right (by simp; omega), List.getElem?_drop] at hj
                rw [← hj]; congr 1; simp; omega
              obtain ⟨us, a1, a2, a3⟩ := hrows j x hj'
              refine ⟨us, a1, a2, fun q u hq => ?_⟩
              have hb2 : min ys.length xs.length * t'.size ≤ j * t'.size := Nat.mul_le_mul_right _ (by omega)
              rw [hs2 _ (.inr (by omega))]
              exact a3 q u hq
          exact ⟨_, _, β, ok, hrun, hI, .one _ _ (.int .i64 _)⟩
    | ovw k of n =>
      simp only [Rd.run1_get] at hr
      have hob := h.obj k
      cases hm : mem.getD k .dead <;> rw [hm] at hr hob <;> try (cases hr; done)
      rename_i t' xs0
      obtain ⟨xs, hx, hr2⟩ := bind_run1 hr
      clear hr
      rw [Rd.run1_ofOption] at hx
      obtain ⟨e0, hx⟩ := decS_spec hx
      subst e0
      replace hx : xs = xs0 := hx
      subst hx
      obtain ⟨hg, hr2⟩ := guard_run1 hr2
      obtain rfl := ret_run1 hr2
      replace hg : of + n ≤ xs.length := by simpa using hg
      obtain ⟨A, n', cp, A', hβ, rfl, hcp, hA⟩ : ∃ A n' c A', β k = .slice A n' c ∧ av = .slice A' n (c - of) ∧ of + n ≤ c ∧ (∀ b q, A = some ⟨b, q, none⟩ → c ≠ of → A' = some ⟨b, q + of * t'.size, none⟩) := by
        cases ha with
        | ovw _ _ _ _ hi hp h1 => exact hp t' (by show (mem.getD k .dead).kd = _; rw [hm]; rfl)
      obtain ⟨A2, c2, hb2, hob⟩ := hob
      rw [hβ] at hb2
      cases hb2
      by_cases h0 : min ys.length n = 0
      · have hsame : xs.take of ++ ys.take n ++ xs.drop (of + min ys.length n) = xs := by
          have : ys.take n = [] := by
            rcases Nat.eq_zero_or_pos n with hx0 | hx0
            · simp [hx0]
            · have : ys = [] := List.eq_nil_of_length_eq_zero (by omega)
              simp [this]
          rw [this, h0]; simp
        have hI : Inv X env (wr mem k (.row t' (xs.take of ++ ys.take n ++ xs.drop (of + min ys.length n)))) al tmps w β ok := (h.congr (fun j => by
          rw [wr_getD]
          split
          · rename_i e; rw [e, hm, hsame]
          · rfl)).2
        exact ⟨_, w, β, ok, run_copy_zero t tx ty e i hu hi A' _ _ bv ys.length news (by rw [hsz]; exact hs) h0, hI, .one _ _ (by rw [h0]; exact .int .i64 0)⟩
      · rcases hob with ⟨rfl, rfl⟩ | ⟨bb, o, arr, T, rfl, hh, h0', hle, hsz2, hrows⟩
        · omega
        · have hAe := hA bb o rfl (by omega)
          subst hAe
          have hmul : (of + min ys.length n) * t'.size ≤ cp * t'.size := Nat.mul_le_mul_right _ (by omega)
          rw [Nat.add_mul] at hmul
          have hnl : (news.take (min ys.length n * i.size)).length = min ys.length n * t'.size := by
            have h1 : min ys.length n * t'.size ≤ ys.length * t'.size := Nat.mul_le_mul_right _ (by omega)
            rw [List.length_take, hy.length, hsz, ← hst]
            omega
          have hin : o + of * t'.size + (news.take (min ys.length n * i.size)).length ≤ arr.size := by omega
          have hrun := run_copy_src (P := P) (w := w) t tx ty e i hu hi bb (o + of * t'.size) n (cp - of) bv ys.length news (by rw [hsz]; exact hs)
            (fun j hj => by rw [hsz, ← hst] at hj; simp [World.cell?, hh]; omega) (fun j hj => by simp [World.frozen?, hh])
          have htl : (ys.take n).length = min ys.length n := by simp; omega
          have e9 : xs.take of ++ ys.take n ++ xs.drop (of + min ys.length n) = xs.take of ++ ys.take n ++ xs.drop (of + (ys.take n).length) := by rw [htl]
          have hI := h.rowWrite (ys := xs.take of ++ ys.take n ++ xs.drop (of + min ys.length n)) hm (by simp; omega) hβ (by omega) hh hin (by
            have : (of + min ys.length n) * t'.size ≤ xs.length * t'.size := Nat.mul_le_mul_right _ (by omega)
            rw [Nat.add_mul] at this
            omega) fun arr' hs1 hs2 hs3 j x hj => by
            rw [e9, spl_get (by omega), htl] at hj
            by_cases h1 : j < of
            · rw [if_pos h1] at hj
              obtain ⟨us, a1, a2, a3⟩ := hrows j x hj
              refine ⟨us, a1, a2, fun q u hq => ?_⟩
              have hq2 : q < t'.size := by rw [← a1]; exact (List.getElem?_eq_some_iff.1 hq).1
              have hb2 : (j + 1) * t'.size ≤ of * t'.size := Nat.mul_le_mul_right _ (by omega)
              rw [Nat.add_mul] at hb2
              rw [hs2 _ (.inl (by omega))]
              exact a3 q u hq
            · rw [if_neg h1] at hj
              by_cases h2 : j < of + min ys.length n
              · rw [if_pos h2, List.getElem?_take, if_pos (by omega)] at hj
                obtain ⟨us, a1, a2, a3⟩ := hy.at_ (j - of) x hj
                refine ⟨us, a1, a2, fun q u hq => ?_⟩
                have hq2 : q < t'.size := by rw [← a1]; exact (List.getElem?_eq_some_iff.1 hq).1
                have hb2 : (j - of + 1) * t'.size ≤ min ys.length n * t'.size := Nat.mul_le_mul_right _ (by omega)
                rw [Nat.add_mul] at hb2
                have := hs3 ((j - of) * t'.size + q) u (by rw [List.getElem?_take, if_pos (by rw [hsz, ← hst]; omega)]; exact a3 q u hq)
                have e8 : j * t'.size = of * t'.size + (j - of) * t'.size := by rw [← Nat.add_mul]; congr 1; omega
                rw [← this]; congr 1; omega
              · rw [if_neg h2] at hj
                obtain ⟨us, a1, a2, a3⟩ := hrows j x hj
                refine ⟨us, a1, a2, fun q u hq => ?_⟩
                have hb2 : (of + min ys.length n) * t'.size ≤ j * t'.size := Nat.mul_le_mul_right _ (by omega)
                rw [Nat.add_mul] at hb2
                rw [hs2 _ (.inr (by omega))]
                exact a3 q u hq
          exact ⟨_, _, β, ok, hrun, hI, .one _ _ (.int .i64 _)⟩
    | _ => cases hr
  · cases hr

variable (ds : List Deferred) (C : Cfg) (h : Inv X env mem al tmps w β ok) {out : Out} {ty : TypeId} {id : Nat} {dst : Option Tmp} {pos : String} {aft : Array Edge} {gd : Option (Nat × Bool)}
include h
theorem left_makeSlice (hid : ¬ al id) {t : TypeId} {n c : Operand} (hr : (semOp P C (.makeSlice t n c) ty (⟨env, mem⟩ : St).ev id).run1 mem = some out) :
    Left P X env mem al tmps w (fun i => i = id) (execOp (⟨tmps, ds⟩ : Act).eval ⟨dst, .makeSlice t n c, ty, pos, aft, gd⟩) out := by
  simp only [semOp] at hr
  split at hr
  · rename_i te bytes sz z hE hz0
    have hE := elemInfo_spec hE
    split at hr
    · rename_i x n' c' hx hn hc
      obtain ⟨hg, hr⟩ := guard_run1 hr
      obtain rfl := ret_run1 hr
      simp only [Bool.and_eq_true, decide_eq_true_eq] at hg
      obtain ⟨⟨h0, hnc⟩, hb⟩ := hg
      obtain ⟨e, i, zv, hu, hi, hz, hsz, hby, hzs, hzr⟩ := hE.ex
      have hzz : zeroCells P e = some z := by unfold elemZero at hz0; rw [hu] at hz0; exact hz0
      obtain ⟨i', zv', hi', hz', hl⟩ := zero_rel (X := X) (w := w) (ok := ok) (β := β) (al := al) hzz
      rw [hi] at hi'
      cases hi'
      rw [hz] at hz'
      cases hz'
      have hrep : RepE w ok te x zv.cells.toList := rel_decAll hx (hl (kds mem))
      have hb1 := hE.b0
      have hcb : c' ≤ c' * (bytes : Int) := by
        have : c' * 1 ≤ c' * (bytes : Int) := Int.mul_le_mul_of_nonneg_left (by omega) (by omega)
        omega
      have hrun := run_make (P := P) w t e i zv hu hi hz .i64 .i64 n' c' h0 hnc (by rw [hby, Int.mul_comm]; omega) (by omega)
      have hcells := Cells.replicate hrep n'.toNat
      have hma : (madeCells zv.cells (c'.toNat * i.size)).toList = (List.replicate c'.toNat zv.cells.toList).flatten := range_zero zv.cells c'.toNat i.size (by rw [hzs, hsz])
      obtain ⟨β', hN, hR⟩ := newRow_left (ws := []) (T := e) (w1 := w) (n := n'.toNat) (cp := c'.toNat) h hid hcells (by simp) (arr := madeCells zv.cells (c'.toNat * i.size)) (fun j u hj => by
        rw [← Array.getElem?_toList, hma]
        have : c'.toNat = n'.toNat + (c'.toNat - n'.toNat) := by omega
        rw [this, ← List.replicate_append_replicate, List.flatten_append, List.getElem?_append_left (List.getElem?_eq_some_iff.1 hj).1]
        exact hj) (by omega) (by rw [size_madeCells, hE.size, hsz]; omega)
        (by
          refine ⟨List.replicate (c'.toNat - n'.toNat) x, by simp; omega, fun k y hk => ?_⟩
          have hky : (List.replicate c'.toNat x)[n'.toNat + k]? = some y := by
            have h1 := (List.getElem?_eq_some_iff.1 hk).1
            simp at h1
            simp [List.getElem?_replicate] at hk ⊢
            exact ⟨by omega, hk.2⟩
          obtain ⟨us, a1, a2, a3⟩ := (Cells.replicate hrep c'.toNat).at_ _ y hky
          refine ⟨us, a1, a2, fun j u hj => ?_⟩
          have := a3 j u hj
          rw [← hma, Array.getElem?_toList] at this
          simpa using this) rfl rfl rfl rfl
      rw [← ev_int ds h hn, ← ev_int ds h hc] at hrun
      exact Left.value (s := Instr.makeSlice t ((⟨tmps, ds⟩ : Act).eval n) ((⟨tmps, ds⟩ : Act).eval c)) hrun hN hR
    · cases hr
  · cases hr

/-- a call's arguments -/
def argVs (P : Program) (s : St) (c : Call) : List V := (List.range c.args.size).map fun i => s.ev (c.args.getD i (.const (.bool false))) ((c.argTypes[i]?).bind (tyAt P))
theorem args_rel (c : Call) : (argVs P ⟨env, mem⟩ c).length = (c.args.map (⟨tmps, ds⟩ : Act).eval).toList.length ∧
    ∀ (j : Nat) v u, (argVs P ⟨env, mem⟩ c)[j]? = some v → (c.args.map (⟨tmps, ds⟩ : Act).eval).toList[j]? = some u → RelV w ok X.rd β (kds mem) al v u := by
  refine ⟨by simp [argVs], fun j v u hv hu => ?_⟩
  simp only [argVs, List.getElem?_map] at hv
  simp only [Array.toList_map, List.getElem?_map] at hu
  cases ha : c.args.toList[j]? with
  | none => rw [ha] at hu; cases hu
  | some x =>
    rw [ha] at hu
    have hj : j < c.args.size := by simpa using (List.getElem?_eq_some_iff.1 ha).1
    rw [List.getElem?_range hj] at hv
    simp at hu hv
    subst hu
    subst hv
    have : c.args[j]? = some x := by simpa using ha
    rw [this]
    exact h.ev ds x _

theorem args2 {c : Call} {x y : V} (e : argVs P ⟨env, mem⟩ c = [x, y]) : ∃ u v, c.args.map (⟨tmps, ds⟩ : Act).eval = #[u, v] ∧ RelV w ok X.rd β (kds mem) al x u ∧ RelV w ok X.rd β (kds mem) al y v := by
  obtain ⟨hl, ha⟩ := args_rel ds h (P := P) c
  rw [e] at hl ha
  generalize hq : (c.args.map (⟨tmps, ds⟩ : Act).eval) = q at hl ha
  obtain ⟨l⟩ := q
  match l, hl with
  | [u, v], _ => exact ⟨u, v, rfl, ha 0 x u rfl rfl, ha 1 y v rfl rfl⟩
theorem args1 {c : Call} {x : V} (e : argVs P ⟨env, mem⟩ c = [x]) : ∃ u, c.args.map (⟨tmps, ds⟩ : Act).eval = #[u] ∧ RelV w ok X.rd β (kds mem) al x u := by
  obtain ⟨hl, ha⟩ := args_rel ds h (P := P) c
  rw [e] at hl ha
  generalize hq : (c.args.map (⟨tmps, ds⟩ : Act).eval) = q at hl ha
  obtain ⟨l⟩ := q
  match l, hl with
  | [u], _ => exact ⟨u, rfl, ha 0 x u rfl rfl⟩

theorem left_builtin {b : Builtin} {c : Call} (hcb : c.callee = .builtin b) (hid : b = .append → ¬ al id) (hr : (semOp P C (.call c) ty (⟨env, mem⟩ : St).ev id).run1 mem = some out) :
    Left P X env mem al tmps w (fun i => b = .append ∧ i = id) (execOp (⟨tmps, ds⟩ : Act).eval ⟨dst, .call c, ty, pos, aft, gd⟩) out := by
  simp only [semOp, hcb] at hr
  have hx : execOp (⟨tmps, ds⟩ : Act).eval ⟨dst, .call c, ty, pos, aft, gd⟩ = builtin b c.argTypes ty (c.args.map fun | .const _ => true | _ => false) (c.args.map (⟨tmps, ds⟩ : Act).eval) := by
    simp only [execOp, resolve, hcb]
    rfl
  rw [hx]
  clear hx
  change (builtinC P b c.argTypes.toList (argVs P ⟨env, mem⟩ c) id).run1 mem = some out at hr
  cases b <;> simp only [builtinC] at hr <;> try (cases hr; done)
  case len =>
    split at hr
    · rename_i t ts x hts hvs
      obtain ⟨u, hu, ru⟩ := args1 ds h hvs
      have hta : c.argTypes = (t :: ts).toArray := by rw [← hts]
      rw [hu, hta]
      obtain ⟨z, hz, ho⟩ := bind_run1 hr
      obtain rfl := ret_run1 ho
      obtain ⟨v, hv, hc⟩ := rel_lenC (P := P) (c := ⟨w, ok, X.rd, β, mem, al⟩) (ty := ty) (ts := ts) h.objs hz ru.one'
      exact Left.read h (s := Builtin.len_ (t :: ts).toArray ty #[u]) hv (.one _ _ hc)
    · cases hr
  case append =>
    split at hr
    · rename_i t tx x y hts hvs
      obtain ⟨u, v, hu, ru, rv⟩ := args2 ds h hvs
      have hta : c.argTypes = #[t, tx] := by rw [← hts]
      rw [hu, hta]
      have hr' := hr
      unfold appendC at hr'
      split at hr'
      · rename_i a b _
        obtain ⟨v1, w', β', ok', h1, h2, h3⟩ := append_sound h (ty := ty) (hid rfl) ru.one' rv.one' hr
        exact Left.value (s := Builtin.append_ #[t, tx] ty #[u, v]) h1 (by simpa using h2) (by simpa using h3)
      · cases hr'
    · cases hr
  case copy =>
    split at hr
    · rename_i t tx x y hts hvs
      obtain ⟨u, v, hu, ru, rv⟩ := args2 ds h hvs
      have hta : c.argTypes = #[t, tx] := by rw [← hts]
      rw [hu, hta]
      have hr' := hr
      unfold copyC at hr'
      split at hr'
      · rename_i a b _
        obtain ⟨v1, w', β', ok', h1, h2, h3⟩ := copy_sound h (ty := ty) ru.one' rv.one' hr
        exact Left.value' h (s := Builtin.copy_ #[t, tx] ty #[u, v]) h1 h2 h3
      · cases hr'
    · cases hr
  case clear =>
    split at hr
    · rename_i t ts x hts hvs
      obtain ⟨u, hu, ru⟩ := args1 ds h hvs
      have hta : c.argTypes = (t :: ts).toArray := by rw [← hts]
      rw [hu, hta]
      obtain ⟨w', h1, h2, h3⟩ := clear_sound h (ty := ty) (ts := ts) ru.one' hr
      exact Left.value' h (s := Builtin.clear_ (t :: ts).toArray ty #[u]) h1 h2 (by rw [h3]; exact .tup [] [] rfl fun j v u hj => by simp at hj)
    · cases hr
  case delete =>
    split at hr
    · rename_i t tk x y hts hvs
      obtain ⟨u, v, hu, ru, rv⟩ := args2 ds h hvs
      have hta : c.argTypes = #[t, tk] := by rw [← hts]
      rw [hu, hta]
      obtain ⟨w', h1, h2, h3⟩ := delete_sound h (ty := ty) (tk := tk) ru rv hr
      exact Left.value' h (s := Builtin.delete_ #[t, tk] ty #[u, v]) h1 h2 (by rw [h3]; exact .tup [] [] rfl fun j v u hj => by simp at hj)
    · cases hr
  case min =>
    split at hr
    · rename_i k a l b hvs
      obtain ⟨u, v, hu, ru, rv⟩ := args2 ds h hvs
      rw [hu]
      split at hr
      · rename_i p hp
        obtain rfl := eqKind_spec hp
        obtain rfl := ret_run1 hr
        rw [ru.one'.int_inv, rv.one'.int_inv]
        exact Left.read h (s := Builtin.min_ c.argTypes ty #[.int k a, .int k b]) (v := .int k (if b < a then b else a)) rfl (.one _ _ (.int _ _))
      · cases hr
    · cases hr
  case max =>
    split at hr
    · rename_i k a l b hvs
      obtain ⟨u, v, hu, ru, rv⟩ := args2 ds h hvs
      rw [hu]
      split at hr
      · rename_i p hp
        obtain rfl := eqKind_spec hp
        obtain rfl := ret_run1 hr
        rw [ru.one'.int_inv, rv.one'.int_inv]
        exact Left.read h (s := Builtin.max_ c.argTypes ty #[.int k a, .int k b]) (v := .int k (if b > a then b else a)) rfl (.one _ _ (.int _ _))
      · cases hr
    · cases hr
end
end Go.Sk
