/- What an operation looks at; the check of the order. -/
import Derived.Test.YtgamdchlgikaiaaSkS
set_option linter.unusedSimpArgs false
set_option linter.unusedVariables false
set_option linter.unusedSectionVars false
namespace Go.Sk
open Go

section
variable {P : Program} {C : Cfg}
theorem map_pairs_congr {ev ev' : Operand → Option Ty → V} (g : Nat → Option Ty) (parts : Array (Nat × Operand)) (h : ∀ x ∈ parts.toList.map (·.2), ∀ t, ev x t = ev' x t) :
    (parts.toList.map fun p => (p.1, ev p.2 (g p.1))) = (parts.toList.map fun p => (p.1, ev' p.2 (g p.1))) :=
  List.map_congr_left fun p hp => by rw [h p.2 (List.mem_map.2 ⟨p, hp, rfl⟩)]

theorem semOp_congr (o : Op) (ty : TypeId) {ev ev' : Operand → Option Ty → V} (id : Nat) (h : ∀ x ∈ o.operands.toList, ∀ t, ev x t = ev' x t) : semOp P C o ty ev id = semOp P C o ty ev' id := by
  cases o
  case build t parts =>
    simp only [semOp]
    rw [map_pairs_congr (partTy P t) parts (by simpa [Op.operands] using h)]
  case buildSlice t n parts =>
    simp only [semOp]
    have := fun te : Ty => map_pairs_congr (ev := ev) (ev' := ev') (fun _ => some te) parts (by simpa [Op.operands] using h)
    simp only [this]
  case makeFunc fn first caps =>
    cases fn <;> simp only [semOp]
    have : caps.toList.map (fun x => ev x none) = caps.toList.map (fun x => ev' x none) := List.map_congr_left fun x hx => h x (by simp [Op.operands]; right; simpa using hx) none
    rw [this]
  case slice t x l hi m =>
    have hx := h x (by simp [Op.operands])
    have hl : l.map (fun o => ev o none) = l.map (fun o => ev' o none) := by
      cases l with
      | none => rfl
      | some o => simp [h o (by simp [Op.operands])]
    have hh : hi.map (fun o => ev o none) = hi.map (fun o => ev' o none) := by
      cases hi with
      | none => rfl
      | some o => simp [h o (by simp [Op.operands])]
    have hm : m.map (fun o => ev o none) = m.map (fun o => ev' o none) := by
      cases m with
      | none => rfl
      | some o => simp [h o (by simp [Op.operands])]
    simp only [semOp, hx, hl, hh, hm]
  case makeMap t r =>
    have hr : r.map (fun o => ev o none) = r.map (fun o => ev' o none) := by
      cases r with
      | none => rfl
      | some o => simp [h o (by simp [Op.operands])]
    simp only [semOp, hr]
  case call c =>
    obtain ⟨callee, args, ats⟩ := c
    have ha : (List.range args.size).map (fun i => ev (args.getD i (.const (.bool false))) ((ats[i]?).bind (tyAt P))) = (List.range args.size).map (fun i => ev' (args.getD i (.const (.bool false))) ((ats[i]?).bind (tyAt P))) :=
      List.map_congr_left fun i hi => by
        have hlt : i < args.size := by simpa using hi
        have : args.getD i (.const (.bool false)) = args[i] := by simp [Array.getD, hlt]
        rw [this]
        exact h _ (by simp [Op.operands, Call.operands]) _
    cases callee with
    | builtin b => simp only [semOp, ha]
    | invoke r n => rfl
    | value f =>
      have hf := h f (by simp [Op.operands, Call.operands])
      simp only [semOp, ha, hf]
  all_goals first
    | rfl
    | (simp only [Op.operands] at h
       simp at h
       simp only [semOp, h]
       done)
    | (simp only [Op.operands] at h
       simp at h
       simp [semOp, h]
       done)

theorem newOf_congr (o : Op) {ev ev' : Operand → Option Ty → V} (h : ∀ x ∈ o.operands.toList, ∀ t, ev x t = ev' x t) : newOf P C o ev = newOf P C o ev' := by
  cases o <;> try rfl
  rename_i c
  obtain ⟨callee, args, ats⟩ := c
  cases callee with
  | builtin b => cases b <;> rfl
  | invoke r n => rfl
  | value f =>
    have hf := h f (by simp [Op.operands, Call.operands])
    simp only [newOf, hf]
end

/-! ### masks -/
theorem beq_iff {a b : Nat} : Nat.beq a b = true ↔ a = b := ⟨Nat.eq_of_beq_eq_true, fun h => by subst h; exact Nat.beq_refl a⟩
theorem blt_iff {a b : Nat} : Nat.blt a b = true ↔ a < b := by rw [Nat.blt_eq]
theorem testBit_bit (t i : Nat) : Nat.testBit (bit t) i = decide (t = i) := by
  unfold bit
  rw [Nat.testBit_two_pow]
theorem testBit_lor (a b i : Nat) : Nat.testBit (Nat.lor a b) i = (Nat.testBit a i || Nat.testBit b i) := Nat.testBit_or a b i
theorem testBit_land (a b i : Nat) : Nat.testBit (Nat.land a b) i = (Nat.testBit a i && Nat.testBit b i) := Nat.testBit_and a b i
theorem opsMask_spec : ∀ (l : List Operand) (t : Nat), Operand.tmp t ∈ l → Nat.testBit (opsMask l) t = true
  | [], t, h => by simp at h
  | x :: r, t, h => by
    simp only [opsMask, testBit_lor]
    rcases List.mem_cons.1 h with rfl | h
    · simp [opMask, testBit_bit]
    · simp [opsMask_spec r t h]
theorem looks_op {ops : Array Oper} {o : Oper} {t : Nat} (h : Operand.tmp t ∈ o.op.operands.toList) : Nat.testBit (looksMask ops o) t = true := by
  unfold looksMask
  have := opsMask_spec _ t h
  split
  · split
    · rw [testBit_lor, this]; rfl
    · exact this
  · exact this
theorem looks_guard {ops : Array Oper} {o : Oper} {j d : Nat} {want : Bool} (hg : o.guard = some (j, want)) (hd : guardTmp ops j = some d) : Nat.testBit (looksMask ops o) d = true := by
  unfold looksMask
  rw [hg]
  simp only [hd, testBit_lor, testBit_bit]
  simp
theorem dst_spec {o : Oper} {t : Nat} : Nat.testBit (dstMask o) t = true ↔ o.dst = some t := by
  unfold dstMask
  cases o.dst with
  | none => simp
  | some d => simp [testBit_bit]

theorem hasNat_spec : ∀ {l : List Nat} {b : Nat}, hasNat l b = true ↔ b ∈ l
  | [], b => by simp [hasNat]
  | a :: r, b => by
    simp only [hasNat, Bool.or_eq_true, hasNat_spec (l := r), List.mem_cons, beq_iff]
    constructor
    · rintro (h | h)
      · exact .inl h.symm
      · exact .inr h
    · rintro (h | h)
      · exact .inl h.symm
      · exact .inr h
theorem meets_spec : ∀ {l b : List Nat}, meets l b = false → ∀ x ∈ l, x ∉ b
  | [], b, _, x, h => by simp at h
  | a :: r, b, hm, x, h => by
    simp only [meets, Bool.or_eq_false_iff] at hm
    rcases List.mem_cons.1 h with rfl | h
    · intro hb
      have := hasNat_spec.2 hb
      rw [hm.1] at this
      cases this
    · exact meets_spec hm.2 x h

structure Apart (a b : En) : Prop where
  dl : ∀ t, Nat.testBit a.dst t = true → ¬ Nat.testBit b.looks t = true
  dd : ∀ t, Nat.testBit a.dst t = true → ¬ Nat.testBit b.dst t = true
  ld : ∀ t, Nat.testBit a.looks t = true → ¬ Nat.testBit b.dst t = true
  wr : ∀ x ∈ a.writes, x ∉ b.reads
  ww : ∀ x ∈ a.writes, x ∉ b.writes
  rw : ∀ x ∈ a.reads, x ∉ b.writes
theorem apart_of {a b : En} (h : apart a b = true) : Apart a b := by
  unfold Sk.apart at h
  simp only [Bool.and_eq_true, Bool.not_eq_true', beq_iff] at h
  obtain ⟨⟨h1, h2⟩, ⟨h3, h4⟩, h5⟩ := h
  have key : ∀ {x y t : Nat}, Nat.land x y = 0 → Nat.testBit x t = true → ¬ Nat.testBit y t = true := fun {x y t} h hx hy => by
    have h2 : Nat.testBit (Nat.land x y) t = true := by rw [testBit_land, hx, hy]; rfl
    rw [h] at h2
    simp at h2
  exact ⟨fun t ht hb => key h1 ht (by rw [testBit_lor, hb]; rfl), fun t ht hb => key h1 ht (by rw [testBit_lor, hb]; simp), fun t ht => key h2 ht, meets_spec h3, meets_spec h4, meets_spec h5⟩

/-! ### the order -/
def Closed (ops : Array Oper) (L : Nat → Prop) : Prop := ∀ j o, ops[j]? = some o → L j → ∀ e ∈ o.after.toList, Region.binds .any e = true → L e.on

theorem befOf_spec {nums : List Nat} {j : Nat} : ∀ (es : List Edge) {i : Nat}, Nat.testBit (befOf nums j es) i = true → ∃ e ∈ es, Region.binds .any e = true ∧ (i = e.on ∨ Nat.testBit (look nums j e.on) i = true)
  | [], i, h => by simp [befOf] at h
  | e :: r, i, h => by
    unfold befOf at h
    cases hb : Region.binds .any e with
    | false =>
      rw [hb] at h
      obtain ⟨e', h1, h2⟩ := befOf_spec r h
      exact ⟨e', by simp [h1], h2⟩
    | true =>
      rw [hb] at h
      simp only [cond, testBit_lor, Bool.or_eq_true, testBit_bit, decide_eq_true_eq] at h
      rcases h with (h | h) | h
      · exact ⟨e, by simp, hb, .inl h.symm⟩
      · exact ⟨e, by simp, hb, .inr h⟩
      · obtain ⟨e', h1, h2⟩ := befOf_spec r h
        exact ⟨e', by simp [h1], h2⟩
theorem against_spec {b : Nat} {e : En} : ∀ (i : Nat) (ens : List En), against b e i ens = true → ∀ (k : Nat) a, k < i → ens[i - 1 - k]? = some a → Nat.testBit b k = true ∨ Apart a e
  | 0, _, _, k, a, hk, _ => by omega
  | i + 1, [], _, k, a, hk, ha => by simp at ha
  | i + 1, x :: r, h, k, a, hk, ha => by
    simp only [against, Bool.and_eq_true, Bool.or_eq_true] at h
    by_cases hki : k = i
    · subst hki
      have : k + 1 - 1 - k = 0 := by omega
      rw [this] at ha
      simp at ha
      subst ha
      exact h.1.imp id apart_of
    · have : i + 1 - 1 - k = (i - 1 - k) + 1 := by omega
      rw [this] at ha
      exact against_spec i r h.2 k a (by omega) (by simpa using ha)
theorem edgesOk_spec {j : Nat} : ∀ (es : List Edge), edgesOk j es = true → ∀ e ∈ es, Region.binds .any e = true → e.on < j
  | [], _, e, he, _ => by simp at he
  | x :: r, h, e, he, hb => by
    simp only [edgesOk, Bool.and_eq_true, Bool.or_eq_true, Bool.not_eq_true'] at h
    rcases List.mem_cons.1 he with rfl | he
    · rcases h.1 with h1 | h1
      · rw [hb] at h1; cases h1
      · exact blt_iff.1 h1
    · exact edgesOk_spec r h.2 e he hb
theorem force_eq {α : Type} (n : Nat) (k : Nat → α) : force n k = k n := by cases n <;> rfl

theorem look_push {nums : List Nat} {j b i : Nat} (hl : nums.length = j) : look (b :: nums) (j + 1) i = if i = j then b else look nums j i := by
  unfold look
  by_cases h1 : i = j
  · subst h1
    have : Nat.blt i (i + 1) = true := blt_iff.2 (by omega)
    rw [this, if_pos rfl]
    simp
  · rw [if_neg h1]
    by_cases h2 : i < j
    · have e1 : Nat.blt i (j + 1) = true := blt_iff.2 (by omega)
      have e2 : Nat.blt i j = true := blt_iff.2 h2
      rw [e1, e2]
      have : j + 1 - 1 - i = (j - 1 - i) + 1 := by omega
      simp only [cond, this]
      rfl
    · have e1 : Nat.blt i (j + 1) = false := by
        cases h : Nat.blt i (j + 1) with
        | false => rfl
        | true => have := blt_iff.1 h; omega
      have e2 : Nat.blt i j = false := by
        cases h : Nat.blt i j with
        | false => rfl
        | true => have := blt_iff.1 h; omega
      rw [e1, e2]
      rfl

theorem orderOk_spec {ops : Array Oper} : ∀ (l : List Oper) (es : List En) (j : Nat) (nums : List Nat) (ens : List En), (∀ k, ops[j + k]? = l[k]?) → nums.length = j → ens.length = j →
    (∀ i', i' < j → ∀ i, Nat.testBit (look nums j i') i = true → ∀ L, Closed ops L → L i' → L i) → orderOk l es j nums ens = true →
    (∀ (b : Nat) eb, es[b]? = some eb → (∀ a ea, a < j → ens[j - 1 - a]? = some ea → (∀ L, Closed ops L → L (j + b) → L a) ∨ Apart ea eb) ∧
      (∀ a ea, a < b → es[a]? = some ea → (∀ L, Closed ops L → L (j + b) → L (j + a)) ∨ Apart ea eb)) ∧
    (∀ (b : Nat) o, l[b]? = some o → ∀ e ∈ o.after.toList, Region.binds .any e = true → e.on < j + b)
  | [], [], j, nums, ens, hops, hn, he, hN, h => ⟨fun b eb hb => by simp at hb, fun b o hb => by simp at hb⟩
  | o :: r, e :: es, j, nums, ens, hops, hn, he, hN, h => by
    unfold orderOk at h
    rw [force_eq] at h
    simp only [Bool.and_eq_true] at h
    obtain ⟨⟨h1, h2⟩, h3⟩ := h
    have ho : ops[j]? = some o := by have := hops 0; simpa using this
    have hops' : ∀ k, ops[j + 1 + k]? = r[k]? := fun k => by have := hops (k + 1); rw [Nat.add_assoc, Nat.add_comm 1 k]; simpa using this
    have hbit : ∀ i, Nat.testBit (befOf nums j o.after.toList) i = true → ∀ L, Closed ops L → L j → L i := by
      intro i hi L hL hj
      obtain ⟨ed, e1, e2, e3⟩ := befOf_spec _ hi
      have hon := hL j o ho hj ed e1 e2
      rcases e3 with rfl | e3
      · exact hon
      · exact hN ed.on (edgesOk_spec _ h2 ed e1 e2) i e3 L hL hon
    have hN' : ∀ i', i' < j + 1 → ∀ i, Nat.testBit (look (befOf nums j o.after.toList :: nums) (j + 1) i') i = true → ∀ L, Closed ops L → L i' → L i := by
      intro i' hi' i hi L hL hj
      rw [look_push hn] at hi
      by_cases hij : i' = j
      · subst hij
        rw [if_pos rfl] at hi
        exact hbit i hi L hL hj
      · rw [if_neg hij] at hi
        exact hN i' (by omega) i hi L hL hj
    obtain ⟨ih1, ih2⟩ := orderOk_spec r es (j + 1) _ (e :: ens) hops' (by simp [hn]) (by simp [he]) hN' h3
    refine ⟨fun b eb hb => ?_, fun b o' hb => ?_⟩
    · cases b with
      | zero =>
        simp at hb
        subst hb
        refine ⟨fun a ea ha hea => ?_, fun a ea ha => by omega⟩
        rcases against_spec j ens h1 a ea ha hea with h | h
        · exact .inl fun L hL hj => hbit a h L hL hj
        · exact .inr h
      | succ b =>
        obtain ⟨g1, g2⟩ := ih1 b eb (by simpa using hb)
        have ej : j + 1 + b = j + (b + 1) := by omega
        rw [ej] at g1 g2
        refine ⟨fun a ea ha hea => g1 a ea (by omega) ?_, fun a ea ha hea => ?_⟩
        · have : j + 1 - 1 - a = (j - 1 - a) + 1 := by omega
          rw [this]; simpa using hea
        · cases a with
          | zero =>
            simp at hea
            subst hea
            have := g1 j e (by omega) (by simp)
            simpa using this
          | succ a =>
            have := g2 a ea (by omega) (by simpa using hea)
            have ea' : j + 1 + a = j + (a + 1) := by omega
            rwa [ea'] at this
    · cases b with
      | zero =>
        simp at hb
        subst hb
        exact fun ed h1 h3 => edgesOk_spec _ h2 ed h1 h3
      | succ b =>
        have := ih2 b o' (by simpa using hb)
        intro ed h1 h3
        have := this ed h1 h3
        omega
  | [], _ :: _, j, nums, ens, hops, hn, he, hN, h => by cases h
  | _ :: _, [], j, nums, ens, hops, hn, he, hN, h => by cases h
end Go.Sk
