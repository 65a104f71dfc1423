/- Segments of code: where the evaluator comes to an end, the machine does. -/
import Derived.Test.YtgamdchlgikaiaaSkX
set_option linter.unusedSimpArgs false
set_option linter.unusedVariables false
set_option linter.unusedSectionVars false
namespace Go.Sk
open Go

def items : List KI → List Item
  | [] => []
  | .code c :: k => .code c :: items k
  | .blk id :: k => .inBlock id :: items k
  | .lp b :: k => .inLoop b :: items k
  | .scp b :: k => .inScope b :: items k
  | .jn :: k => items k
/-- where a run begins: a loop begins with its body -/
def start : List KI → List Item
  | .lp b :: k => .code b :: .inLoop b :: items k
  | k => items k
def fr0 (f : FuncId) : Frame := { (default : Frame) with fn := f, kind := .normal }
/-- the function's frame comes to its end -/
def Goes (P : Program) (f : FuncId) (Post : Value → World → Prop) (todo : List Item) (tmps : Array Value) (w : World) : Prop :=
  ∀ cs, ∃ v w' fr, Post v w' ∧ Steps P (lone ((fr0 f).at ⟨tmps, []⟩ todo) cs w) (lone fr cs w') ∧ fr.fn = f ∧ fr.leaving P w' (.returned v)

section
variable {P : Program} {C : Cfg} {X : Fr} {f : FuncId} {Post : Value → World → Prop}
theorem Goes.step {todo todo' : List Item} {tmps tmps' : Array Value} {w w' : World} (h : Goes P f Post todo' tmps' w') (hs : ∀ cs, Steps P (lone ((fr0 f).at ⟨tmps, []⟩ todo) cs w) (lone ((fr0 f).at ⟨tmps', []⟩ todo') cs w')) : Goes P f Post todo tmps w := fun cs =>
  let ⟨v, w1, fr, h1, h2, h3, h4⟩ := h cs
  ⟨v, w1, fr, h1, (hs cs).trans h2, h3, h4⟩
theorem Goes.ofStart {k : List KI} {tmps : Array Value} {w : World} (h : Goes P f Post (start k) tmps w) : Goes P f Post (items k) tmps w := by
  cases k with
  | nil => exact h
  | cons x k =>
    cases x <;> first | exact h | exact h.step fun cs => .one step_inLoop

theorem exitK_spec {id : Nat} : ∀ (k k' : List KI), exitK id k = some k' → exitTo id (items k) = some (items k')
  | [], k', h => by cases h
  | x :: k, k', h => by
    cases x <;> simp only [exitK] at h <;> simp only [items, exitTo] <;> try exact exitK_spec k k' h
    rename_i i
    cases hb : (i == id) with
    | true =>
      rw [hb] at h
      simp at h
      subst h
      simp
    | false =>
      rw [hb] at h
      simp only [Bool.false_eq_true, if_false]
      exact exitK_spec k k' h
theorem gotoK_spec {l : Nat} : ∀ (k k' : List KI), gotoK l k = some k' → gotoIn l (items k) = some (items k')
  | [], k', h => by cases h
  | x :: k, k', h => by
    cases x <;> simp only [gotoK] at h <;> simp only [items, gotoIn] <;> try exact gotoK_spec k k' h
    rename_i b
    cases hb : findLabel b l with
    | none => rw [hb] at h; exact gotoK_spec k k' h
    | some c =>
      rw [hb] at h
      simp at h
      subst h
      rfl

theorem pad_getD (n : Nat) (m : List Obj) (j : Nat) : (padTo n m).getD j .dead = m.getD j .dead := by
  unfold padTo
  rw [List.getD_eq_getElem?_getD, List.getD_eq_getElem?_getD, List.getElem?_append]
  split
  · rfl
  · rename_i h
    rw [List.getElem?_replicate, List.getElem?_eq_none (by omega : m.length ≤ j)]
    split <;> rfl
theorem pad_len (n : Nat) (m : List Obj) : n ≤ (padTo n m).length := by simp [padTo]; omega

def QK (K : Array Value → World → Prop) : Exit → Act → World → Prop
  | .normal, a, w => a.defers = [] ∧ K a.tmps w
  | _, _, _ => False

variable {call : CallF} {R : Type} {leaf : List KI → St → Option R} {fin : V → List Obj → Option R} {PostR : R → Value → World → Prop}

theorem seg_goes (hm : P.follows .mixedOrders = true) (hcall : CallOk P call) {fn : Func} (hf : P.funcs[f]? = some fn)
    (hleaf : ∀ (ks : List KI) (s : St) (x : R), leaf ks s = some x → ∀ {al : Nat → Prop} {tmps : Array Value} {w : World} {β : Nat → Value} {ok : Nat → Prop}, Inv X s.env s.mem al tmps w β ok → (∀ j, s.mem.length ≤ j → ¬ al j) → Goes P f (PostR x) (start ks) tmps w)
    (hfin : ∀ (s : St) (x : R), (finT P (fxOf P f) s).interp call leaf fin = some x → ∀ {al : Nat → Prop} {tmps : Array Value} {w : World} {β : Nat → Value} {ok : Nat → Prop}, Inv X s.env s.mem al tmps w β ok → (∀ j, s.mem.length ≤ j → ¬ al j) →
      ∃ v, (results fn tmps).run P w = .ok v w ∧ PostR x v w) :
    ∀ (n : Nat) (ks : List KI) (s : St) (x : R), (seg P C (fxOf P f) n ks s).interp call leaf fin = some x → ∀ {al : Nat → Prop} {tmps : Array Value} {w : World} {β : Nat → Value} {ok : Nat → Prop},
      Inv X s.env s.mem al tmps w β ok → (∀ j, s.mem.length ≤ j → ¬ al j) → Goes P f (PostR x) (items ks) tmps w := by
  have cut : ∀ (ks : List KI) (s : St) (x : R), (cutAt (fxOf P f) ks s).interp call leaf fin = some x → ∀ {al : Nat → Prop} {tmps : Array Value} {w : World} {β : Nat → Value} {ok : Nat → Prop},
      Inv X s.env s.mem al tmps w β ok → (∀ j, s.mem.length ≤ j → ¬ al j) → Goes P f (PostR x) (items ks) tmps w := by
    intro ks s x h al tmps w β ok hI hal
    obtain ⟨β', al', h1, h2⟩ := hI.norm hal (liveKs (fxOf P f).ret (fxOf P f).all ks).1
    exact (hleaf ks _ x h h1 h2).ofStart
  have leave : ∀ (todo todo' : List Item) (tmps : Array Value) (w : World) (x : R), (∀ cs, Steps P (lone ((fr0 f).at ⟨tmps, []⟩ todo) cs w) (lone { (fr0 f).at ⟨tmps, []⟩ todo' with mode := .returning } cs w)) →
      (∃ v, (results fn tmps).run P w = .ok v w ∧ PostR x v w) → Goes P f (PostR x) todo tmps w := by
    intro todo todo' tmps w x hs ⟨v, h1, h2⟩ cs
    exact ⟨v, w, _, h2, hs cs, rfl, rfl, rfl, rfl, fn, hf, h1⟩
  intro n
  induction n with
  | zero => intro ks s x h; cases h
  | succ n ih =>
    intro ks s x h al tmps w β ok hI hal
    cases ks with
    | nil => exact leave [] [] tmps w x (fun cs => .one step_end) (hfin s x h hI hal)
    | cons k0 k =>
      cases k0 with
      | jn => exact cut k s x h hI hal
      | blk id => exact (ih k s x h hI hal).step fun cs => .one step_inBlock
      | scp b => exact (ih k s x h hI hal).step fun cs => .one step_inScope
      | lp b => exact cut (.lp b :: k) s x h hI hal
      | code c =>
        cases c <;> try (cases h; done)
        case skip => exact (ih k s x h hI hal).step fun cs => .one step_skip
        case «label» l => exact (ih k s x h hI hal).step fun cs => .one step_label
        case seq a b => exact (ih (.code a :: .code b :: k) s x h hI hal).step fun cs => .one step_seq
        case block id b => exact (ih (.code b :: .blk id :: k) s x h hI hal).step fun cs => .one step_block
        case scope b => exact (ih (.code b :: .scp b :: k) s x h hI hal).step fun cs => .one step_scope
        case loop b =>
          obtain ⟨β', al', h1, h2⟩ := hI.norm hal (liveKs (fxOf P f).ret (fxOf P f).all (.lp b :: k)).1
          exact (hleaf (.lp b :: k) _ x h h1 h2).step fun cs => .one step_loop
        case ret => exact leave _ _ tmps w x (fun cs => .one step_ret) (hfin s x h hI hal)
        case exit id =>
          simp only [seg] at h
          split at h
          · rename_i k' hk
            exact (ih k' s x h hI hal).step fun cs => .one (step_exit (exitK_spec k k' hk))
          · cases h
        case goto l =>
          simp only [seg] at h
          split at h
          · rename_i k' hk
            exact (cut k' s x h hI hal).step fun cs => .one (step_goto (gotoK_spec k k' hk))
          · cases h
        case cond c a b =>
          simp only [seg] at h
          split at h
          · rename_i t he
            have hv : (⟨tmps, []⟩ : Act).eval c = .bool t := (ev_one [] hI he).bool_inv
            have hk : ∀ q, items (q :: (bif falls a && falls b then .jn :: k else k)) = items (q :: k) := by
              intro q
              cases (falls a && falls b) <;> cases q <;> rfl
            cases t with
            | true =>
              have := ih _ s x h hI hal
              rw [hk] at this
              exact this.step fun cs => .one (step_cond hv)
            | false =>
              have := ih _ s x h hI hal
              rw [hk] at this
              exact this.step fun cs => .one (step_cond hv)
          · cases h
        case region id ops draw =>
          simp only [seg] at h
          rw [evOps_interp] at h
          cases ht : trace P C call ops ops.toList s.mem.length s with
          | none => rw [ht] at h; cases h
          | some tr =>
            rw [ht, Option.bind_some, List.append_nil, List.reverse_reverse] at h
            -- behind the region
            have after : ∀ (tmps' : Array Value) (w' : World) (β' : Nat → Value) (ok' al' : Nat → Prop), Inv X (foldR s tr).env (foldR s tr).mem al' tmps' w' β' ok' → (∀ j, lastId s.mem.length tr ≤ j → ¬ al' j) →
                (bif hasGuard ops.toList then cutAt (fxOf P f) k { foldR s tr with mem := padTo (lastId s.mem.length tr) (foldR s tr).mem } else seg P C (fxOf P f) n k { foldR s tr with mem := padTo (lastId s.mem.length tr) (foldR s tr).mem }).interp call leaf fin = some x →
                Goes P f (PostR x) (items k) tmps' w' := by
              intro tmps' w' β' ok' al' hI' hal' hx
              have hI2 := (hI'.congr (mem2 := padTo (lastId s.mem.length tr) (foldR s tr).mem) fun j => pad_getD _ _ j).2
              have hal2 : ∀ j, (padTo (lastId s.mem.length tr) (foldR s tr).mem).length ≤ j → ¬ al' j := fun j hj => hal' j (Nat.le_trans (pad_len _ _) hj)
              cases hg : hasGuard ops.toList with
              | true => rw [hg] at hx; exact cut k _ x hx hI2 hal2
              | false => rw [hg] at hx; exact ih k _ x hx hI2 hal2
            have done : (Code.region id ops draw).wp P (QK fun tmps' w' => Goes P f (PostR x) (items k) tmps' w') ⟨tmps, []⟩ w → Goes P f (PostR x) (items (.code (.region id ops draw) :: k)) tmps w := by
              intro hw cs
              obtain ⟨e, a', w', hq, harr⟩ := hw (fr0 f) (items k) cs
              cases e <;> try exact hq.elim
              obtain ⟨hd, hg⟩ := hq
              obtain ⟨v, w1, fr, h1, h2, h3, h4⟩ := hg cs
              rw [act_eta a' hd] at harr
              exact ⟨v, w1, fr, h1, Steps.trans harr h2, h3, h4⟩
            refine done ?_
            cases draw with
            | false =>
              simp only [Bool.not_false, Bool.true_or, cond] at h
              refine wp_region ?_
              have hr : List.range ops.size = List.range' 0 ops.toList.length := by rw [List.range_eq_range', Array.length_toList]
              rw [hr]
              exact ops_wp hcall [] ops.toList 0 s.mem.length s tr (fun k => by simp) hI hal ht fun tmps' w' β' ok' al' hI' hal' => ⟨rfl, after tmps' w' β' ok' al' hI' hal' h⟩
            | true =>
              simp only [Bool.not_true, Bool.false_or] at h
              cases ho : orderOk ops.toList (tr.map (Rec.en ops)) 0 [] [] with
              | false => rw [ho] at h; cases h
              | true =>
                rw [ho] at h
                simp only [cond] at h
                refine wp_region_any hm ?_
                have hnone : ∀ k, (Array.replicate ops.size false).getD k false = false := fun k => by
                  rw [Array.getD_eq_getD_getElem?, Array.getElem?_replicate]
                  split <;> rfl
                refine any_wp (X := X) hcall [] ht ho hal (fun tmps' w' β' ok' al' hI' hal' => ⟨rfl, after tmps' w' β' ok' al' hI' hal' h⟩) ops.size (Array.replicate ops.size false) (List.range ops.size) tmps _ β ok (by simp) (by simp) (fun i hi => ?_) (fun j o hj hL => ?_) ?_
                · have := (getD_false_of_true hi).2
                  simpa using this
                · have hL' : (Array.replicate ops.size false).getD j false = true := hL
                  rw [hnone] at hL'
                  cases hL'
                · rw [stAt_none _ tr 0 s (fun k _ => by rw [Nat.zero_add]; exact hnone k)]
                  exact ((hI.heap (w' := { w with drawn := w.drawn + 1 }) rfl rfl rfl rfl).alMono fun j hj => .inl hj).2
end
end Go.Sk
