/- Regions in any order. -/
import Derived.Test.YtgamdchlgikaiaaSkT
set_option linter.unusedSimpArgs false
set_option linter.unusedVariables false
set_option linter.unusedSectionVars false
namespace Go.Sk
open Go

/-- the state behind some of the operations -/
def stAt (f : Nat → Bool) : Nat → List Rec → St → St
  | _, [], s => s
  | i, r :: rest, s => stAt f (i + 1) rest (bif f i then apply1 s r else s)
def Rec.wr (r : Rec) : List Nat := match r.res with | some out => out.ws.map (·.1) | none => []

theorem wrs_getD_same : ∀ (ws : List (Nat × Obj)) (m m' : List Obj) (x : Nat), m.getD x .dead = m'.getD x .dead → (wrs m ws).getD x .dead = (wrs m' ws).getD x .dead
  | [], _, _, _, h => h
  | (i, o) :: r, m, m', x, h => wrs_getD_same r _ _ x (by rw [wr_getD, wr_getD]; split <;> first | rfl | exact h)
theorem wrs_getD_other : ∀ (ws : List (Nat × Obj)) (m : List Obj) (x : Nat), x ∉ ws.map (·.1) → (wrs m ws).getD x .dead = m.getD x .dead
  | [], _, _, _ => rfl
  | (i, o) :: r, m, x, h => by
    simp at h
    show (wrs (wr m i o) r).getD x .dead = _
    rw [wrs_getD_other r _ x (by simpa using h.2), wr_getD, if_neg h.1]
/-- what is written does not hang on what stood there -/
theorem wrs_getD_mem : ∀ (ws : List (Nat × Obj)) (m m' : List Obj) (x : Nat), x ∈ ws.map (·.1) → (wrs m ws).getD x .dead = (wrs m' ws).getD x .dead
  | [], _, _, _, h => by simp at h
  | (i, o) :: r, m, m', x, h => by
    by_cases hr : x ∈ r.map (·.1)
    · exact wrs_getD_mem r _ _ x hr
    · have : x = i := by
        simp at h hr
        rcases h with h | ⟨o', h⟩
        · exact h
        · exact absurd h (hr o')
      subst this
      show (wrs (wr m x o) r).getD x .dead = (wrs (wr m' x o) r).getD x .dead
      rw [wrs_getD_other r _ x hr, wrs_getD_other r _ x hr, wr_getD, wr_getD, if_pos rfl, if_pos rfl]

theorem apply1_len (s : St) (r : Rec) : (apply1 s r).env.length = s.env.length := by
  have : ∀ v, (s.put r.o.dst v).env.length = s.env.length := fun v => by rw [put_eq]; cases r.o.dst <;> simp
  unfold apply1
  cases r.res with
  | none => exact this _
  | some out => exact this _
theorem apply1_env_other (s : St) (r : Rec) {t : Nat} (h : r.o.dst ≠ some t) : (apply1 s r).env[t]? = s.env[t]? := by
  have : ∀ v, (s.put r.o.dst v).env[t]? = s.env[t]? := fun v => by
    rw [put_eq]
    cases hd : r.o.dst with
    | none => rfl
    | some d =>
      have hne : d ≠ t := fun e => h (by rw [hd, e])
      simp [List.getElem?_set, hne]
  unfold apply1
  cases r.res with
  | none => exact this _
  | some out => exact this _
theorem apply1_env_same (s s' : St) (r : Rec) {t : Nat} (hl : s.env.length = s'.env.length) (h : s.env[t]? = s'.env[t]? ∨ r.o.dst = some t) : (apply1 s r).env[t]? = (apply1 s' r).env[t]? := by
  have : ∀ v, (s.put r.o.dst v).env[t]? = (s'.put r.o.dst v).env[t]? := fun v => by
    rw [put_eq, put_eq]
    cases hd : r.o.dst with
    | none => exact h.resolve_right (by rw [hd]; simp)
    | some d =>
      simp only [List.getElem?_set, hl]
      by_cases hdt : d = t
      · simp [hdt]
      · simp only [if_neg hdt]
        exact h.resolve_right fun e => hdt (by rw [hd] at e; simpa using e)
  unfold apply1
  cases r.res with
  | none => exact this _
  | some out => exact this _
theorem put_mem (s : St) (d : Option Tmp) (v : V) : (s.put d v).mem = s.mem := by rw [put_eq]
theorem apply1_mem_other (s : St) (r : Rec) {x : Nat} (h : x ∉ r.wr) : (apply1 s r).mem.getD x .dead = s.mem.getD x .dead := by
  unfold Rec.wr at h
  unfold apply1
  cases hr : r.res with
  | none => simp only [put_mem]
  | some out =>
    rw [hr] at h
    show (wrs (s.put r.o.dst out.v).mem out.ws).getD x .dead = _
    rw [put_mem]
    exact wrs_getD_other _ _ x h
theorem apply1_mem_same (s s' : St) (r : Rec) {x : Nat} (h : s.mem.getD x .dead = s'.mem.getD x .dead ∨ x ∈ r.wr) : (apply1 s r).mem.getD x .dead = (apply1 s' r).mem.getD x .dead := by
  unfold Rec.wr at h
  unfold apply1
  cases hr : r.res with
  | none =>
    rw [hr] at h
    simp only [put_mem]
    exact h.resolve_right (by simp)
  | some out =>
    rw [hr] at h
    show (wrs (s.put r.o.dst out.v).mem out.ws).getD x .dead = (wrs (s'.put r.o.dst out.v).mem out.ws).getD x .dead
    rw [put_mem, put_mem]
    rcases h with h | h
    · exact wrs_getD_same _ _ _ x h
    · exact wrs_getD_mem _ _ _ x h

theorem stAt_len (f : Nat → Bool) : ∀ (tr : List Rec) (i : Nat) (s : St), (stAt f i tr s).env.length = s.env.length
  | [], _, _ => rfl
  | r :: rest, i, s => by
    show (stAt f (i + 1) rest (bif f i then apply1 s r else s)).env.length = _
    rw [stAt_len f rest]
    cases f i
    · rfl
    · exact apply1_len s r

theorem stAt_env (f g : Nat → Bool) (t : Nat) : ∀ (tr : List Rec) (i : Nat) (s s' : St), s.env.length = s'.env.length → s.env[t]? = s'.env[t]? → (∀ k r, tr[k]? = some r → f (i + k) ≠ g (i + k) → r.o.dst ≠ some t) →
    (stAt f i tr s).env[t]? = (stAt g i tr s').env[t]?
  | [], i, s, s', hl, h, _ => h
  | r :: rest, i, s, s', hl, h, hd => by
    have h0 := hd 0 r rfl
    have hd' : ∀ k r', rest[k]? = some r' → f (i + 1 + k) ≠ g (i + 1 + k) → r'.o.dst ≠ some t := fun k r' hk => by
      have := hd (k + 1) r' (by simpa using hk)
      rwa [show i + (k + 1) = i + 1 + k by omega] at this
    simp only [Nat.add_zero] at h0
    show (stAt f (i + 1) rest (bif f i then apply1 s r else s)).env[t]? = (stAt g (i + 1) rest (bif g i then apply1 s' r else s')).env[t]?
    refine stAt_env f g t rest (i + 1) _ _ ?_ ?_ hd'
    · cases f i <;> cases g i <;> simp [apply1_len, hl]
    · cases hf : f i <;> cases hg : g i <;> simp only [cond]
      · exact h
      · rw [apply1_env_other s' r (h0 (by rw [hf, hg]; simp))]; exact h
      · rw [apply1_env_other s r (h0 (by rw [hf, hg]; simp))]; exact h
      · exact apply1_env_same s s' r hl (.inl h)
theorem stAt_mem (f g : Nat → Bool) (x : Nat) : ∀ (tr : List Rec) (i : Nat) (s s' : St), s.mem.getD x .dead = s'.mem.getD x .dead → (∀ k r, tr[k]? = some r → f (i + k) ≠ g (i + k) → x ∉ r.wr) →
    (stAt f i tr s).mem.getD x .dead = (stAt g i tr s').mem.getD x .dead
  | [], i, s, s', h, _ => h
  | r :: rest, i, s, s', h, hd => by
    have h0 := hd 0 r rfl
    have hd' : ∀ k r', rest[k]? = some r' → f (i + 1 + k) ≠ g (i + 1 + k) → x ∉ r'.wr := fun k r' hk => by
      have := hd (k + 1) r' (by simpa using hk)
      rwa [show i + (k + 1) = i + 1 + k by omega] at this
    simp only [Nat.add_zero] at h0
    show (stAt f (i + 1) rest (bif f i then apply1 s r else s)).mem.getD x .dead = (stAt g (i + 1) rest (bif g i then apply1 s' r else s')).mem.getD x .dead
    refine stAt_mem f g x rest (i + 1) _ _ ?_ hd'
    cases hf : f i <;> cases hg : g i <;> simp only [cond]
    · exact h
    · rw [apply1_mem_other s' r (h0 (by rw [hf, hg]; simp))]; exact h
    · rw [apply1_mem_other s r (h0 (by rw [hf, hg]; simp))]; exact h
    · exact apply1_mem_same s s' r (.inl h)

/-- the last of those done that yields a temporary -/
theorem stAt_env_hit (f : Nat → Bool) (t : Nat) : ∀ (tr : List Rec) (i k : Nat) (s s' : St) (r : Rec), tr[k]? = some r → f (i + k) = true → r.o.dst = some t → s.env.length = s'.env.length →
    (∀ k' r', k < k' → tr[k']? = some r' → f (i + k') = true → r'.o.dst ≠ some t) → (stAt f i tr s).env[t]? = (apply1 s' r).env[t]?
  | [], i, k, s, s', r, hk, _, _, _, _ => by simp at hk
  | q :: rest, i, k, s, s', r, hk, hf, ht, hl, hd => by
    show (stAt f (i + 1) rest (bif f i then apply1 s q else s)).env[t]? = _
    cases k with
    | zero =>
      simp at hk
      subst hk
      simp only [Nat.add_zero] at hf
      rw [hf]
      simp only [cond]
      have : (stAt f (i + 1) rest (apply1 s q)).env[t]? = (stAt (fun _ => false) (i + 1) rest (apply1 s' q)).env[t]? := by
        refine stAt_env f _ t rest (i + 1) _ _ (by simp [apply1_len, hl]) (apply1_env_same s s' q hl (.inr ht)) fun k' r' hk' hne => ?_
        refine hd (k' + 1) r' (by omega) (by simpa using hk') ?_
        have : f (i + 1 + k') = true := by cases h : f (i + 1 + k') with | true => rfl | false => rw [h] at hne; simp at hne
        rwa [show i + (k' + 1) = i + 1 + k' by omega]
      rw [this]
      have none : ∀ (tr : List Rec) (i : Nat) (s : St), stAt (fun _ => false) i tr s = s := by
        intro tr
        induction tr with
        | nil => intro _ _; rfl
        | cons a b ih => intro i s; exact ih (i + 1) s
      rw [none]
    | succ k =>
      refine stAt_env_hit f t rest (i + 1) k _ s' r (by simpa using hk) (by rwa [show i + 1 + k = i + (k + 1) by omega]) ht ?_ fun k' r' hk' h1 h2 => ?_
      · cases f i
        · exact hl
        · simp [apply1_len, hl]
      · exact hd (k' + 1) r' (by omega) (by simpa using h1) (by rwa [show i + (k' + 1) = i + 1 + k' by omega])
theorem stAt_mem_hit (f : Nat → Bool) (x : Nat) : ∀ (tr : List Rec) (i k : Nat) (s s' : St) (r : Rec), tr[k]? = some r → f (i + k) = true → x ∈ r.wr →
    (∀ k' r', k < k' → tr[k']? = some r' → f (i + k') = true → x ∉ r'.wr) → (stAt f i tr s).mem.getD x .dead = (apply1 s' r).mem.getD x .dead
  | [], i, k, s, s', r, hk, _, _, _ => by simp at hk
  | q :: rest, i, k, s, s', r, hk, hf, ht, hd => by
    show (stAt f (i + 1) rest (bif f i then apply1 s q else s)).mem.getD x .dead = _
    cases k with
    | zero =>
      simp at hk
      subst hk
      simp only [Nat.add_zero] at hf
      rw [hf]
      simp only [cond]
      have : (stAt f (i + 1) rest (apply1 s q)).mem.getD x .dead = (stAt (fun _ => false) (i + 1) rest (apply1 s' q)).mem.getD x .dead := by
        refine stAt_mem f _ x rest (i + 1) _ _ (apply1_mem_same s s' q (.inr ht)) fun k' r' hk' hne => ?_
        refine hd (k' + 1) r' (by omega) (by simpa using hk') ?_
        have : f (i + 1 + k') = true := by cases h : f (i + 1 + k') with | true => rfl | false => rw [h] at hne; simp at hne
        rwa [show i + (k' + 1) = i + 1 + k' by omega]
      rw [this]
      have none : ∀ (tr : List Rec) (i : Nat) (s : St), stAt (fun _ => false) i tr s = s := by
        intro tr
        induction tr with
        | nil => intro _ _; rfl
        | cons a b ih => intro i s; exact ih (i + 1) s
      rw [none]
    | succ k =>
      exact stAt_mem_hit f x rest (i + 1) k _ s' r (by simpa using hk) (by rwa [show i + 1 + k = i + (k + 1) by omega]) ht fun k' r' hk' h1 h2 =>
        hd (k' + 1) r' (by omega) (by simpa using h1) (by rwa [show i + (k' + 1) = i + 1 + k' by omega])

/-- one more of them -/
theorem stAt_more {f f' : Nat → Bool} {tr : List Rec} {s : St} {i : Nat} {r : Rec} (hi : tr[i]? = some r) (hf : f i = false) (hf' : ∀ k, f' k = (f k || k == i))
    (hd : ∀ k q, i < k → tr[k]? = some q → f k = true → (∀ t, r.o.dst = some t → q.o.dst ≠ some t) ∧ ∀ x ∈ r.wr, x ∉ q.wr) :
    (stAt f' 0 tr s).env = (apply1 (stAt f 0 tr s) r).env ∧ ∀ x, (stAt f' 0 tr s).mem.getD x .dead = (apply1 (stAt f 0 tr s) r).mem.getD x .dead := by
  have hii : f' i = true := by rw [hf']; simp
  have hne : ∀ k q, tr[k]? = some q → f' (0 + k) ≠ f (0 + k) → q = r := fun k q hk h => by
    have : k = i := by
      by_cases e : k = i
      · exact e
      · have hb : (k == i) = false := by simpa using e
        rw [Nat.zero_add, hf', hb] at h
        simp at h
    subst this
    rw [hi] at hk
    exact (Option.some.inj hk).symm
  have hgt : ∀ k, i < k → f' (0 + k) = true → f k = true := fun k hk h => by
    rw [Nat.zero_add, hf'] at h
    have hb : (k == i) = false := by simp; omega
    rw [hb] at h
    simpa using h
  constructor
  · apply List.ext_getElem?
    intro t
    by_cases ht : r.o.dst = some t
    · exact stAt_env_hit f' t tr 0 i s (stAt f 0 tr s) r hi (by rw [Nat.zero_add]; exact hii) ht (stAt_len f tr 0 s).symm fun k q hk h1 h2 => (hd k q hk h1 (hgt k hk h2)).1 t ht
    · rw [apply1_env_other _ _ ht]
      exact stAt_env f' f t tr 0 s s rfl rfl fun k q hk h => by rw [hne k q hk h]; exact ht
  · intro x
    by_cases hx : x ∈ r.wr
    · exact stAt_mem_hit f' x tr 0 i s (stAt f 0 tr s) r hi (by rw [Nat.zero_add]; exact hii) hx fun k q hk h1 h2 => (hd k q hk h1 (hgt k hk h2)).2 x hx
    · rw [apply1_mem_other _ _ hx]
      exact stAt_mem f' f x tr 0 s s rfl fun k q hk h => by rw [hne k q hk h]; exact hx

theorem stAt_all (f : Nat → Bool) : ∀ (tr : List Rec) (i : Nat) (s : St), (∀ k, k < tr.length → f (i + k) = true) → stAt f i tr s = foldR s tr
  | [], _, _, _ => rfl
  | r :: rest, i, s, h => by
    show stAt f (i + 1) rest (bif f i then apply1 s r else s) = foldR (apply1 s r) rest
    rw [show f i = true from h 0 (by simp)]
    exact stAt_all f rest (i + 1) _ fun k hk => by have := h (k + 1) (by simp; omega); rwa [show i + (k + 1) = i + 1 + k by omega] at this
theorem stAt_none (f : Nat → Bool) : ∀ (tr : List Rec) (i : Nat) (s : St), (∀ k, k < tr.length → f (i + k) = false) → stAt f i tr s = s
  | [], _, _, _ => rfl
  | r :: rest, i, s, h => by
    show stAt f (i + 1) rest (bif f i then apply1 s r else s) = s
    rw [show f i = false from h 0 (by simp)]
    exact stAt_none f rest (i + 1) _ fun k hk => by have := h (k + 1) (by simp; omega); rwa [show i + (k + 1) = i + 1 + k by omega] at this

section
variable {P : Program} {C : Cfg}
/-- what a trace says of one operation -/
structure At (P : Program) (C : Cfg) (call : CallF) (ops : Array Oper) (s : St) (r : Rec) : Prop where
  or_ : (wantedA ops s r.o = some false ∧ r.res = none ∧ r.n = 0) ∨
    (wantedA ops s r.o = some true ∧ ∃ out, r.res = some out ∧ r.n = newOf P C r.o.op s.ev ∧ (semOp P C r.o.op r.o.type s.ev r.id).runL call s.mem [] = some (out, r.rs))

theorem trace_at {call : CallF} {ops : Array Oper} : ∀ (l : List Oper) (nx : Nat) (s : St) (tr : List Rec) (i : Nat), trace P C call ops l nx s = some tr →
    tr.length = l.length ∧ nx ≤ lastId nx tr ∧ ∀ k r, tr[k]? = some r → l[k]? = some r.o ∧ At P C call ops (stAt (fun q => Nat.blt q (i + k)) i tr s) r ∧ nx ≤ r.id ∧ r.id + r.n ≤ lastId nx tr ∧
      ∀ k' r', k < k' → tr[k']? = some r' → r.id + r.n ≤ r'.id
  | [], nx, s, tr, i, ht => by
    simp [trace] at ht
    subst ht
    exact ⟨rfl, Nat.le_refl _, fun k r hk => by simp at hk⟩
  | o :: l, nx, s, tr, i, ht => by
    have hself : Nat.blt i i = false := by cases h : Nat.blt i i with | false => rfl | true => have := blt_iff.1 h; omega
    have fin : ∀ (r0 : Rec) (tr2 : List Rec) (nx2 : Nat) (s2 : St), tr = r0 :: tr2 → r0.o = o → r0.id = nx → nx2 = nx + r0.n → s2 = apply1 s r0 → At P C call ops s r0 → trace P C call ops l nx2 s2 = some tr2 →
        tr.length = (o :: l).length ∧ nx ≤ lastId nx tr ∧ ∀ k r, tr[k]? = some r → (o :: l)[k]? = some r.o ∧ At P C call ops (stAt (fun q => Nat.blt q (i + k)) i tr s) r ∧ nx ≤ r.id ∧ r.id + r.n ≤ lastId nx tr ∧
          ∀ k' r', k < k' → tr[k']? = some r' → r.id + r.n ≤ r'.id := by
      intro r0 tr2 nx2 s2 e1 e2 e3 e4 e5 hat ht2
      subst e1
      subst e5
      obtain ⟨h1, h2, h3⟩ := trace_at l nx2 _ tr2 (i + 1) ht2
      have hlast : lastId nx (r0 :: tr2) = lastId nx2 tr2 := by show lastId (r0.id + r0.n) tr2 = _; rw [e3, ← e4]
      rw [hlast]
      refine ⟨by simp [h1], by omega, fun k r hk => ?_⟩
      cases k with
      | zero =>
        simp at hk
        subst hk
        refine ⟨by simp [e2], ?_, by omega, by omega, fun k' r' hk' hr' => ?_⟩
        · rw [stAt_none]
          · exact hat
          · intro k _
            cases h : Nat.blt (i + k) (i + 0) with
            | false => rfl
            | true => have := blt_iff.1 h; omega
        · cases k' with
          | zero => omega
          | succ k' =>
            have := (h3 k' r' (by simpa using hr')).2.2.1
            omega
      | succ k =>
        obtain ⟨g1, g2, g3, g4, g5⟩ := h3 k r (by simpa using hk)
        refine ⟨by simpa using g1, ?_, by omega, g4, fun k' r' hk' hr' => ?_⟩
        · have e6 : stAt (fun q => Nat.blt q (i + (k + 1))) i (r0 :: tr2) s = stAt (fun q => Nat.blt q (i + 1 + k)) (i + 1) tr2 (apply1 s r0) := by
            show stAt _ (i + 1) tr2 (bif Nat.blt i (i + (k + 1)) then apply1 s r0 else s) = _
            rw [blt_iff.2 (show i < i + (k + 1) by omega), show i + (k + 1) = i + 1 + k by omega]
            rfl
          rw [e6]
          exact g2
        · cases k' with
          | zero => omega
          | succ k' => exact g5 k' r' (by omega) (by simpa using hr')
    unfold trace at ht
    cases hw : wantedA ops s o with
    | none => rw [hw] at ht; cases ht
    | some b =>
      rw [hw] at ht
      cases b with
      | false =>
        cases ht2 : trace P C call ops l nx (s.put o.dst (.tup [])) with
        | none => simp only [ht2] at ht; cases ht
        | some tr2 =>
          simp only [ht2, Option.map_some, Option.some.injEq] at ht
          exact fin ⟨nx, 0, o, none, []⟩ tr2 nx _ ht.symm rfl rfl rfl rfl ⟨.inl ⟨hw, rfl, rfl⟩⟩ ht2
      | true =>
        cases hp : (semOp P C o.op o.type s.ev nx).runL call s.mem [] with
        | none => simp only [hp] at ht; cases ht
        | some p =>
          simp only [hp, Option.bind_some] at ht
          cases ht2 : trace P C call ops l (nx + newOf P C o.op s.ev) ((s.put o.dst p.1.v).write p.1.ws) with
          | none => rw [ht2] at ht; cases ht
          | some tr2 =>
            rw [ht2] at ht
            simp only [Option.map_some, Option.some.injEq] at ht
            exact fin ⟨nx, newOf P C o.op s.ev, o, some p.1, p.2⟩ tr2 _ _ ht.symm rfl rfl rfl rfl ⟨.inr ⟨hw, p.1, rfl, rfl, hp⟩⟩ ht2

theorem ev_same {s s' : St} {x : Operand} (h : ∀ t, x = .tmp t → s.env[t]? = s'.env[t]?) (ty : Option Ty) : s.ev x ty = s'.ev x ty := by
  cases x with
  | tmp t =>
    show s.env.getD t uv = s'.env.getD t uv
    rw [List.getD_eq_getElem?_getD, List.getD_eq_getElem?_getD, h t rfl]
  | const v => cases v <;> rfl
  | global g => rfl
  | func f => rfl

/-- in another state that agrees where it looks -/
theorem At.move {call : CallF} {ops : Array Oper} {s s' : St} {r : Rec} (h : At P C call ops s r) (ht : ∀ t, Nat.testBit (looksMask ops r.o) t = true → s'.env[t]? = s.env[t]?) (hx : ∀ x ∈ r.rs, s'.mem.getD x .dead = s.mem.getD x .dead) :
    At P C call ops s' r := by
  have hev : ∀ x ∈ r.o.op.operands.toList, ∀ t, s'.ev x t = s.ev x t := fun x hx t => ev_same (fun q e => ht q (looks_op (by rw [← e]; exact hx))) t
  have hw : wantedA ops s' r.o = wantedA ops s r.o := by
    unfold wantedA
    cases hg : r.o.guard with
    | none => rfl
    | some gw =>
      obtain ⟨j, want⟩ := gw
      simp only
      cases hd : guardTmp ops j with
      | none => rfl
      | some d =>
        simp only
        have : s'.env.getD d uv = s.env.getD d uv := by rw [List.getD_eq_getElem?_getD, List.getD_eq_getElem?_getD, ht d (looks_guard hg hd)]
        rw [this]
  rcases h.or_ with ⟨h1, h2, h3⟩ | ⟨h1, out, h2, h3, h4⟩
  · exact ⟨.inl ⟨by rw [hw]; exact h1, h2, h3⟩⟩
  · refine ⟨.inr ⟨by rw [hw]; exact h1, out, h2, by rw [h3]; exact newOf_congr _ fun x hx t => (hev x hx t).symm, ?_⟩⟩
    rw [semOp_congr (P := P) (C := C) r.o.op r.o.type r.id hev]
    exact runL_congr _ h4 hx
end
end Go.Sk
