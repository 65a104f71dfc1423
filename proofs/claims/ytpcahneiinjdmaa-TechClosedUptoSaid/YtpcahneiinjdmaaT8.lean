/- The functions' equations, all parts. -/
import Derived.Test.YtpcahneiinjdmaaT6
import Derived.Test.YtpcahneiinjdmaaT7
import Derived.Test.YtpcahneiinjdmaaT4
import Derived.Test.YtpcahneiinjdmaaT5
import Derived.KernelRfl
import Derived.Test.YtpcahneiinjdmaaShelf


/- What the helpers of the layer come to: copies, finders, ordered lists. -/
set_option linter.unusedVariables false
set_option linter.unusedSimpArgs false
set_option maxHeartbeats 4000000
namespace Go.Proofs.Ytpcahneiinjdmaa
open Go Go.Sk

abbrev LF (l : List ByteArray) : Prop := l.length * 16 ≤ 140737488355328
/-! ### what is told -/
theorem clone_t (s : List ByteArray) (hs : LF s) : slices_Clone_1.f s = some s := by
  have e : cfg.prim 32 [(.one (.slc .str s))] [] ⟨[.one (.own .str)], 0⟩ = some s := if_pos hs
  unfold slices_Clone_1.f callX orPrim
  rw [e]
  rfl
theorem clone_p (s : List PlayerT) (hs : s.length * 64 ≤ 140737488355328) : slices_Clone.f s = some s := by
  have e : cfg.prim 46 [(.one (.slc cPlayer s))] [] ⟨[.one (.own cPlayer)], 0⟩ = some s := if_pos hs
  unfold slices_Clone.f callX orPrim
  rw [e]
  rfl
theorem insert_at (i : Int) (xs ys : List ByteArray) (h0 : 0 ≤ i) (hi : i ≤ xs.length) (hy : 0 < ys.length) (hb : (xs.length + ys.length) * 16 ≤ 140737488355328) : slices_Insert.f i xs ys = some (xs.take i.toNat ++ ys ++ xs.drop i.toNat) := by
  have e : cfg.prim 49 [(.one (.osl 1)), (.one (.int .i64 i)), (.one (.osl 2))] [(.ghost []), (.row .str xs), (.row .str ys)] ⟨[.one (.ty (.slice .str))], 0⟩ = some (xs.take i.toNat ++ ys ++ xs.drop i.toNat) := if_pos ⟨h0, hi, hy, hb⟩
  unfold slices_Insert.f callX orPrim
  rw [e]
  rfl
theorem sorted_eq (es : List (ByteArray × Bool)) (h : es.length * 16 ≤ 140737488355328) : tech_sorted.f es = some (sortTexts (es.map fun e => e.1), es) := by
  have e : cfg.prim 26 [(.one (.osl 1))] [(.ghost [(.osl 1)]), (.map .str .bool false es true)] ⟨[.one (.own .str), .one (.map .str .bool false true)], 1⟩ = some (sortTexts (es.map fun e => e.1), es) := if_pos ⟨rfl, rfl, h⟩
  unfold tech_sorted.f callX orPrim
  rw [e]
  rfl

/-! ### ordered lists -/
theorem has_eq (l : List ByteArray) (s : ByteArray) (hl : l.length ≤ 9223372036854775807) : ref29_Has.f l s = some (hasT l s) := by
  rw [ref29_Has.f_eq, any_loop l (fun i => ref29_Has.j0 l s i) (fun e => decide (e = s)) true (some false) (fun k hk => ?hF) ?hE]
  · unfold hasT
    cases l.any (fun e => decide (e = s)) <;> rfl
  case hF =>
    rw [ref29_Has.j0_eq, lt_true hk, cond_true, idx_nat, List.getElem?_eq_getElem hk, Option.bind_some, wr_succ hk hl, toList_beq]
  case hE =>
    rw [ref29_Has.j0_eq, lt_false (Nat.le_refl _), cond_false]
theorem rest_eq (l : List ByteArray) (s : ByteArray) (hl : l.length ≤ 9223372036854775807) (m : Nat) : ∀ (k : Nat) (acc : List ByteArray), k + m = l.length → (acc.length + m) * 16 ≤ 140737488355328 → ref29_Insert.j0 l s true k acc = some (acc ++ l.drop k) := by
  induction m with
  | zero =>
    intro k acc hk hb
    rw [ref29_Insert.j0_eq, lt_false (by omega), cond_false, show k = l.length by omega, List.drop_length, List.append_nil]
    rfl
  | succ m ih =>
    intro k acc hk hb
    have hlt : k < l.length := by omega
    rw [ref29_Insert.j0_eq, lt_true hlt, cond_true]
    simp only [Bool.not_true, cond_false, idx_nat, List.getElem?_eq_getElem hlt, Option.bind_some, List.length_singleton, cond_dec]
    rw [if_pos (show (acc.length + 1) * 16 ≤ 140737488355328 by omega), wr_succ hlt hl, ih (k + 1) (acc ++ [l[k]]) (by omega) (by simp; omega), List.drop_eq_getElem_cons hlt]
    simp
theorem ar (a m : Nat) (h : (a + (m + 1) + 1) * 16 ≤ 140737488355328) : (a + 1) * 16 ≤ 140737488355328 ∧ (a + 1 + 1) * 16 ≤ 140737488355328 ∧ (a + 1 + 1 + m) * 16 ≤ 140737488355328 ∧ (a + 1 + m + 1) * 16 ≤ 140737488355328 := by omega
theorem ins_eq (l : List ByteArray) (s : ByteArray) (hl : l.length ≤ 9223372036854775807) (m : Nat) : ∀ (k : Nat) (acc : List ByteArray), k + m = l.length → (acc.length + m + 1) * 16 ≤ 140737488355328 → ref29_Insert.j0 l s false k acc = some (acc ++ insT s (l.drop k)) := by
  induction m with
  | zero =>
    intro k acc hk hb
    rw [ref29_Insert.j0_eq, lt_false (by omega), cond_false, show k = l.length by omega, List.drop_length]
    simp only [Bool.not_false, cond_true, List.length_singleton, cond_dec]
    rw [if_pos (show (acc.length + 1) * 16 ≤ 140737488355328 by omega)]
    rfl
  | succ m ih =>
    intro k acc hk hb
    have hlt : k < l.length := by omega
    have g5 : k + 1 + m = l.length := by omega
    obtain ⟨g1, a2, a3, a4⟩ := ar _ _ hb
    rw [ref29_Insert.j0_eq, lt_true hlt, cond_true]
    simp only [Bool.not_false, cond_true, idx_nat, List.getElem?_eq_getElem hlt, Option.bind_some, above, List.length_singleton, cond_dec]
    rw [List.drop_eq_getElem_cons hlt]
    unfold insT
    have g2 : ((acc ++ [s]).length + 1) * 16 ≤ 140737488355328 := by rw [List.length_append, List.length_singleton]; exact a2
    have g3 : ((acc ++ [s] ++ [l[k]]).length + m) * 16 ≤ 140737488355328 := by rw [List.length_append, List.length_append, List.length_singleton, List.length_singleton]; exact a3
    have g4 : ((acc ++ [l[k]]).length + m + 1) * 16 ≤ 140737488355328 := by rw [List.length_append, List.length_singleton]; exact a4
    by_cases h : tb s < tb l[k]
    · simp only [h, g1, g2, if_true]
      rw [wr_succ hlt hl, rest_eq l s hl m (k + 1) _ g5 g3]
      simp
    · simp only [h, g1, if_true, if_false]
      rw [wr_succ hlt hl, ih (k + 1) _ g5 g4]
      simp
theorem insert29_eq (l : List ByteArray) (s : ByteArray) (hl : (l.length + 1) * 16 ≤ 140737488355328) : ref29_Insert.f l s = some (insT s l) := by
  rw [ref29_Insert.f_eq]
  exact ins_eq l s (by omega) l.length 0 [] (by omega) (by simpa using hl)
theorem with_eq (l : List ByteArray) (s : ByteArray) (hl : (l.length + 1) * 16 ≤ 140737488355328) : ref29_with.f l s = some (withT l s) := by
  rw [ref29_with.f_eq, has_eq l s (by omega), Option.bind_some, hasT_dec, insert29_eq l s hl]
  unfold withT
  by_cases h : s ∈ l
  · rw [decide_eq_true h, if_pos h]; rfl
  · rw [decide_eq_false h, if_neg h]; rfl

/-! ### finders -/
abbrev unit0 : UnitTypeT := ({ data := #[] }, false, false, 0, 0, 0, 0, 0, 0, 0, 0, 0, { data := #[] }, 0, 0, 0, [], [], [])
abbrev tech0 : TechT := ({ data := #[] }, [], 0, 0, 0, { data := #[] }, 0, 0)
def findU (r : RulesT) (name : ByteArray) : UnitTypeT × Bool := first1 (fun u => (u, true)) (unit0, false) (r.1.find? fun u => decide (u.1 = name))
def findT (r : RulesT) (name : ByteArray) : TechT × Bool := first1 (fun t => (t, true)) (tech0, false) (r.2.2.find? fun t => decide (t.1 = name))
structure UnitL (u : UnitTypeT) : Prop where
  a : LF u.2.2.2.2.2.2.2.2.2.2.2.2.2.2.2.2.1
  b : LF u.2.2.2.2.2.2.2.2.2.2.2.2.2.2.2.2.2.1
  c : LF u.2.2.2.2.2.2.2.2.2.2.2.2.2.2.2.2.2.2
structure RulesL (r : RulesT) : Prop where
  ul : r.1.length ≤ 9223372036854775807
  tl : r.2.2.length ≤ 9223372036854775807
  u : ∀ u ∈ r.1, UnitL u
  t : ∀ t ∈ r.2.2, LF t.2.1
theorem findU_L {r : RulesT} (h : RulesL r) (name : ByteArray) : UnitL (findU r name).1 := by
  unfold findU
  cases hu : r.1.find? fun u => decide (u.1 = name) with
  | some u => exact h.u u (List.mem_of_find?_eq_some hu)
  | none => exact ⟨by decide, by decide, by decide⟩
theorem findT_L {r : RulesT} (h : RulesL r) (name : ByteArray) : LF (findT r name).1.2.1 := by
  unfold findT
  cases hu : r.2.2.find? fun t => decide (t.1 = name) with
  | some u => exact h.t u (List.mem_of_find?_eq_some hu)
  | none => exact (by decide : LF [])
theorem cloneUnit_eq (u : UnitTypeT) (h : UnitL u) : rules_cloneUnit.f u = some u := by
  rw [rules_cloneUnit.f_eq, clone_t _ h.a, Option.bind_some, clone_t _ h.b, Option.bind_some, clone_t _ h.c, Option.bind_some]
theorem unit_eq (r : RulesT) (name : ByteArray) (h : RulesL r) : rules_Unit.f r name = some (findU r name) := by
  have e : rules_find_1.f r.1 name = some (findU r name) := by
    rw [rules_find_1.f_eq]
    refine (find1_loop r.1 (fun i => rules_find_1.j0 name r.1 r.1.length i { data := #[] } false false 0 0 0 0 0 0 0 0 0 { data := #[] } 0 0 0 [] [] []) (fun u => decide (u.1 = name)) (fun u => (u, true)) (unit0, false) (fun k hk => ?_) ?_)
    · rw [rules_find_1.j0_eq, lt_true hk, cond_true, idx_nat, List.getElem?_eq_getElem hk, Option.bind_some, rules_unitName.f_eq, Option.bind_some, wr_succ hk h.ul, toList_beq]
    · rw [rules_find_1.j0_eq, lt_false (Nat.le_refl _), cond_false]
  rw [rules_Unit.f_eq]
  show (rules_find_1.f r.1 name).bind _ = _
  rw [e, Option.bind_some, cloneUnit_eq _ (findU_L h name)]
  rfl
theorem runit_eq (r : RulesT) (name : ByteArray) (h : RulesL r) : ref09_Unit.f r name = some (findU r name) := by
  rw [ref09_Unit.f_eq]
  refine (find1_loop r.1 (fun i => ref09_Unit.j0 name i r { data := #[] } false false 0 0 0 0 0 0 0 0 0 { data := #[] } 0 0 0 [] [] []) (fun u => decide (u.1 = name)) (fun u => (u, true)) (unit0, false) (fun k hk => ?_) ?_)
  · rw [ref09_Unit.j0_eq]
    simp only [lt_true hk, cond_true, idx_nat, List.getElem?_eq_getElem hk, Option.bind_some, wr_succ hk h.ul, toList_beq]
  · rw [ref09_Unit.j0_eq, lt_false (Nat.le_refl _), cond_false]
theorem tech_eq (r : RulesT) (name : ByteArray) (h : RulesL r) : rules_Tech.f r name = some (findT r name) := by
  have e : rules_find.f r.2.2 name = some (findT r name) := by
    rw [rules_find.f_eq]
    refine (find1_loop r.2.2 (fun i => rules_find.j0 name r.2.2 r.2.2.length i { data := #[] } 0 0 0 { data := #[] } 0 0 []) (fun u => decide (u.1 = name)) (fun u => (u, true)) (tech0, false) (fun k hk => ?_) ?_)
    · rw [rules_find.j0_eq, lt_true hk, cond_true, idx_nat, List.getElem?_eq_getElem hk, Option.bind_some, rules_techName.f_eq, Option.bind_some, wr_succ hk h.tl, toList_beq]
    · rw [rules_find.j0_eq, lt_false (Nat.le_refl _), cond_false]
  rw [rules_Tech.f_eq]
  show (rules_find.f r.2.2 name).bind _ = _
  rw [e, Option.bind_some, clone_t _ (findT_L h name)]
  rfl
end Go.Proofs.Ytpcahneiinjdmaa

/- What a player has: the set of texts, as the program and as the answer reckon it. -/
set_option linter.unusedVariables false
set_option linter.unusedSimpArgs false
set_option maxHeartbeats 1000000
namespace Go.Proofs.Ytpcahneiinjdmaa
open Go Go.Sk
theorem rtech_eq (r : RulesT) (name : ByteArray) (h : RulesL r) : ref09_Tech.f r name = some (findT r name) := by
  rw [ref09_Tech.f_eq]
  refine (find1_loop r.2.2 (fun i => ref09_Tech.j0 name i r { data := #[] } 0 0 0 { data := #[] } 0 0 []) (fun u => decide (u.1 = name)) (fun u => (u, true)) (tech0, false) (fun k hk => ?_) ?_)
  · rw [ref09_Tech.j0_eq]
    simp only [lt_true hk, cond_true, idx_nat, List.getElem?_eq_getElem hk, Option.bind_some, wr_succ hk h.tl, toList_beq]
  · rw [ref09_Tech.j0_eq, lt_false (Nat.le_refl _), cond_false]
/-! ### the player -/
abbrev player0 : PlayerT := (0, 0, 0, 0, [], false)
abbrev plrs (g : GameT) : List PlayerT := g.2.2.2.2.2.2.2.1
abbrev units (g : GameT) : List EntityT := g.2.2.2.2.2.2.2.2.1
abbrev rulesOf (g : GameT) : RulesT := g.2.2.2.2.2.1
abbrev techsOf (p : PlayerT) : List ByteArray := p.2.2.2.2.1
def plr (g : GameT) (p : Int) : PlayerT × Bool := first1 (fun x => (x, true)) (player0, false) ((plrs g).find? fun x => x.1 == p)
theorem rplr_eq (g : GameT) (p : Int) (hl : (plrs g).length ≤ 9223372036854775807) : ref23_Player.f g p = some (plr g p) := by
  rw [ref23_Player.f_eq]
  refine (find1_loop (plrs g) (fun i => ref23_Player.j0 p i g 0 0 0 0 false []) (fun x => x.1 == p) (fun x => (x, true)) (player0, false) (fun k hk => ?_) ?_)
  · rw [ref23_Player.j0_eq]
    simp only [lt_true hk, cond_true, idx_nat, List.getElem?_eq_getElem hk, Option.bind_some, wr_succ hk hl]
  · rw [ref23_Player.j0_eq, lt_false (Nat.le_refl _), cond_false]
theorem find_eq (g : GameT) (p : Int) (hl : (plrs g).length ≤ 9223372036854775807) : tech_find.f g p = some (pos1 ((plrs g).findIdx? fun x => x.1 == p)) := by
  have e : slices_IndexFunc_1.f (plrs g) p = some (pos1 ((plrs g).findIdx? fun x => x.1 == p)) := by
    rw [slices_IndexFunc_1.f_eq, find_loop (plrs g) (fun i => slices_IndexFunc_1.j0 (plrs g) p (plrs g).length i) (fun x => x.1 == p) (fun k => (k : Int)) (some (-1)) (fun k hk => ?hF) ?hE]
    · exact found_pos _
    case hF =>
      rw [slices_IndexFunc_1.j0_eq, lt_true hk, cond_true, idx_nat, List.getElem?_eq_getElem hk, Option.bind_some, tech_find_1.f_eq, Option.bind_some, wr_succ hk hl]
    case hE =>
      rw [slices_IndexFunc_1.j0_eq, lt_false (Nat.le_refl _), cond_false]
  rw [tech_find.f_eq]
  show (slices_IndexFunc_1.f (plrs g) p).bind _ = _
  rw [e]
  rfl
/-! ### the texts -/
def counts (g : GameT) (p : Int) (e : EntityT) : Bool := (findU (rulesOf g) e.2.2.1).2 && ((findU (rulesOf g) e.2.2.1).1.2.1 && (e.2.1 == p && e.2.2.2.2.2.2.1 == 0))
structure GameL (g : GameT) : Prop where
  r : RulesL (rulesOf g)
  pl : (plrs g).length ≤ 9223372036854775807
  ul : (units g).length ≤ 9223372036854775807
  tl : ∀ p ∈ plrs g, (techsOf p).length ≤ 9223372036854775807
theorem plr_L {g : GameT} (h : GameL g) (p : Int) : (techsOf (plr g p).1).length ≤ 9223372036854775807 := by
  unfold plr
  cases hu : (plrs g).find? fun x => x.1 == p with
  | some u => exact h.tl u (List.mem_of_find?_eq_some hu)
  | none => exact Nat.zero_le _
def texts (g : GameT) (p : Int) : List ByteArray := ((units g).filter (counts g p)).map (fun e => e.2.2.1) ++ techsOf (plr g p).1
theorem have1_eq (ts : List ByteArray) (hl : ts.length ≤ 9223372036854775807) (es : List (ByteArray × Bool)) : tech_have.j1 ts ts.length 0 es = some (setAll ts es) := by
  refine fold_loop ts (fun es i => tech_have.j1 ts ts.length i es) (fun es k => mapSet .str .bool es k true) (fun _ _ => True) some (fun es k hk _ => ?_) (fun _ _ _ _ => trivial) (fun es _ => ?_) es trivial
  · rw [tech_have.j1_eq, lt_true hk, cond_true, idx_nat, List.getElem?_eq_getElem hk, Option.bind_some, wr_succ hk hl]
  · rw [tech_have.j1_eq, lt_false (Nat.le_refl _), cond_false]
theorem setAll_filter (g : GameT) (p : Int) : ∀ (us : List EntityT) (es : List (ByteArray × Bool)), us.foldl (fun es e => bif counts g p e then mapSet .str .bool es e.2.2.1 true else es) es = setAll ((us.filter (counts g p)).map fun e => e.2.2.1) es
  | [], es => rfl
  | e :: r, es => by
    rw [List.foldl_cons, setAll_filter g p r, List.filter_cons]
    cases counts g p e <;> rfl
theorem thave_eq (g : GameT) (p : Int) (h : GameL g) : tech_have.f g p = some (setAll (texts g p) []) := by
  rw [tech_have.f_eq]
  refine (fold_loop (units g) (fun es i => tech_have.j0 p (units g) (units g).length i g es) (fun es e => bif counts g p e then mapSet .str .bool es e.2.2.1 true else es) (fun _ _ => True)
    (fun es => some (setAll (techsOf (plr g p).1) es)) (fun es k hk _ => ?_) (fun _ _ _ _ => trivial) (fun es _ => ?_) [] trivial).trans ?_
  · rw [tech_have.j0_eq]
    simp only [lt_true hk, cond_true, idx_nat, List.getElem?_eq_getElem hk, Option.bind_some, wr_succ hk h.ul]
    rw [show rules_Unit.f g.2.2.2.2.2.1 (units g)[k].2.2.1 = _ from unit_eq (rulesOf g) _ h.r]
    simp only [Option.bind_some, entity_Ready.f_eq, counts]
    cases (findU (rulesOf g) (units g)[k].2.2.1).2 <;> cases (findU (rulesOf g) (units g)[k].2.2.1).1.2.1 <;> cases ((units g)[k].2.1 == p) <;> cases ((units g)[k].2.2.2.2.2.2.1 == 0) <;> rfl
  · rw [tech_have.j0_eq, lt_false (Nat.le_refl _), cond_false, find_eq g p h.pl, Option.bind_some]
    unfold plr
    rw [find_findIdx]
    cases hf : (plrs g).findIdx? (fun x => x.1 == p) with
    | none => rfl
    | some i =>
      have hi : i < (plrs g).length := (List.findIdx?_eq_some_iff_getElem.1 hf).1
      rw [show decide (pos1 (some i) ≥ 0) = true from decide_eq_true (show (i : Int) ≥ 0 by omega), cond_true]
      show (idx (plrs g) (i : Int)).bind _ = _
      rw [idx_nat, List.getElem?_eq_getElem hi, Option.bind_some, Option.bind_some, List.getElem?_eq_getElem hi]
      exact have1_eq _ (h.tl _ (List.getElem_mem hi)) es
  · rw [setAll_filter]
    unfold texts setAll
    rw [List.foldl_append]
end Go.Proofs.Ytpcahneiinjdmaa

/- What a player has, as the answer reckons it. -/
set_option linter.unusedVariables false
set_option linter.unusedSimpArgs false
set_option maxHeartbeats 1000000
namespace Go.Proofs.Ytpcahneiinjdmaa
open Go Go.Sk
abbrev lim : Nat := 1000000
theorem h3_eq (pl : PlayerT) (hl : (techsOf pl).length ≤ 9223372036854775807) (m : Nat) : ∀ (k : Nat) (out : List ByteArray), k + m = (techsOf pl).length → out.length + m ≤ 1000000 → ref29_Have.j3 out k pl = some (((techsOf pl).drop k).foldl withT out) := by
  induction m with
  | zero =>
    intro k out hk hb
    rw [ref29_Have.j3_eq, lt_false (show (techsOf pl).length ≤ k by omega), cond_false, show k = (techsOf pl).length by omega, List.drop_length]
    rfl
  | succ m ih =>
    intro k out hk hb
    have hlt : k < (techsOf pl).length := by omega
    have hw := withT_len out (techsOf pl)[k]
    rw [ref29_Have.j3_eq, lt_true hlt, cond_true, idx_nat, List.getElem?_eq_getElem hlt, Option.bind_some, with_eq _ _ (by omega), Option.bind_some, wr_succ hlt hl, ih (k + 1) _ (by omega) (by omega), List.drop_eq_getElem_cons hlt, List.foldl_cons]
theorem h2_eq (pl : PlayerT) (hl : (techsOf pl).length ≤ 9223372036854775807) (out : List ByteArray) (hb : out.length + (techsOf pl).length ≤ 1000000) : ref29_Have.j2 0 out pl = some ((techsOf pl).foldl withT out) := by
  rw [ref29_Have.j2_eq]
  by_cases h0 : 0 < (techsOf pl).length
  · have hw := withT_len out (techsOf pl)[0]
    rw [show decide ((0 : Int) < ((techsOf pl).length : Int)) = true from decide_eq_true (by omega), cond_true]
    show (idx (techsOf pl) ((0 : Nat) : Int)).bind _ = _
    rw [idx_nat, List.getElem?_eq_getElem h0, Option.bind_some, with_eq _ _ (by omega), Option.bind_some]
    have e := h3_eq pl hl ((techsOf pl).length - 1) 1 (withT out (techsOf pl)[0]) (by omega) (by omega)
    have e2 : IntKind.i64.wrap (0 + 1) = ((1 : Nat) : Int) := by decide
    rw [e2, e]
    have e3 := List.drop_eq_getElem_cons h0
    rw [List.drop_zero] at e3
    rw [show (techsOf pl).foldl withT out = ((techsOf pl)[0] :: (techsOf pl).drop (0 + 1)).foldl withT out by rw [← e3]]
    rfl
  · rw [show decide ((0 : Int) < ((techsOf pl).length : Int)) = false from decide_eq_false (by omega), cond_false, List.length_eq_zero_iff.1 (by omega : (techsOf pl).length = 0)]
    rfl
/-- what is put in from the k-th unit on -/
abbrev from_ (g : GameT) (p : Int) (k : Nat) : List ByteArray := (((units g).drop k).filter (counts g p)).map (fun e => e.2.2.1) ++ techsOf (plr g p).1
theorem from_succ (g : GameT) (p : Int) {k : Nat} (hk : k < (units g).length) (out : List ByteArray) : (from_ g p k).foldl withT out = (from_ g p (k + 1)).foldl withT (bif counts g p (units g)[k] then withT out (units g)[k].2.2.1 else out) := by
  unfold from_
  rw [List.drop_eq_getElem_cons hk, List.filter_cons]
  cases counts g p (units g)[k] <;> rfl
theorem from_end (g : GameT) (p : Int) {k : Nat} (hk : (units g).length ≤ k) : from_ g p k = techsOf (plr g p).1 := by
  unfold from_
  rw [List.drop_of_length_le hk]
  rfl
theorem h1_eq (g : GameT) (p : Int) (h : GameL g) (m : Nat) : ∀ (k : Nat) (out : List ByteArray), k + m = (units g).length → out.length + m + (techsOf (plr g p).1).length ≤ 1000000 → ref29_Have.j1 p out k g = some ((from_ g p k).foldl withT out) := by
  induction m with
  | zero =>
    intro k out hk hb
    rw [ref29_Have.j1_eq, lt_false (show (units g).length ≤ k by omega), cond_false, rplr_eq g p h.pl, Option.bind_some, from_end g p (by omega)]
    have := h3_eq (plr g p).1 (plr_L h p) (techsOf (plr g p).1).length 0 out (by omega) (by omega)
    rw [List.drop_zero] at this
    exact this
  | succ m ih =>
    intro k out hk hb
    have hlt : k < (units g).length := by omega
    have hw := withT_len out (units g)[k].2.2.1
    have i1 := ih (k + 1) (withT out (units g)[k].2.2.1) (by omega) (by omega)
    have i2 := ih (k + 1) out (by omega) (by omega)
    rw [ref29_Have.j1_eq, lt_true hlt, cond_true, idx_nat, List.getElem?_eq_getElem hlt, Option.bind_some, show ref09_Unit.f g.2.2.2.2.2.1 (units g)[k].2.2.1 = _ from runit_eq (rulesOf g) _ h.r, Option.bind_some, with_eq _ _ (by omega), Option.bind_some, wr_succ hlt h.ul, i1, i2, from_succ g p hlt]
    unfold counts
    cases (findU (rulesOf g) (units g)[k].2.2.1).2 <;> cases (findU (rulesOf g) (units g)[k].2.2.1).1.2.1 <;> cases ((units g)[k].2.1 == p) <;> cases ((units g)[k].2.2.2.2.2.2.1 == 0) <;> rfl
theorem h0_eq (g : GameT) (p : Int) (h : GameL g) (m : Nat) : ∀ (k : Nat) (out : List ByteArray), k + m = (units g).length → out.length + m + (techsOf (plr g p).1).length ≤ 1000000 → ref29_Have.j0 p k g out = some ((from_ g p k).foldl withT out) := by
  induction m with
  | zero =>
    intro k out hk hb
    rw [ref29_Have.j0_eq, lt_false (show (units g).length ≤ k by omega), cond_false, rplr_eq g p h.pl, Option.bind_some, from_end g p (by omega)]
    exact h2_eq (plr g p).1 (plr_L h p) out (by omega)
  | succ m ih =>
    intro k out hk hb
    have hlt : k < (units g).length := by omega
    have hw := withT_len out (units g)[k].2.2.1
    have i1 := h1_eq g p h m (k + 1) (withT out (units g)[k].2.2.1) (by omega) (by omega)
    have i2 := ih (k + 1) out (by omega) (by omega)
    rw [ref29_Have.j0_eq, lt_true hlt, cond_true, idx_nat, List.getElem?_eq_getElem hlt, Option.bind_some, show ref09_Unit.f g.2.2.2.2.2.1 (units g)[k].2.2.1 = _ from runit_eq (rulesOf g) _ h.r, Option.bind_some, with_eq _ _ (by omega), Option.bind_some, wr_succ hlt h.ul, i1, i2, from_succ g p hlt]
    unfold counts
    cases (findU (rulesOf g) (units g)[k].2.2.1).2 <;> cases (findU (rulesOf g) (units g)[k].2.2.1).1.2.1 <;> cases ((units g)[k].2.1 == p) <;> cases ((units g)[k].2.2.2.2.2.2.1 == 0) <;> rfl
theorem rhave_eq (g : GameT) (p : Int) (h : GameL g) (hb : (units g).length + (techsOf (plr g p).1).length ≤ 1000000) : ref29_Have.f g p = some ((texts g p).foldl withT []) := by
  rw [ref29_Have.f_eq]
  have := h0_eq g p h (units g).length 0 [] (by omega) (by simpa using hb)
  unfold from_ at this
  rw [List.drop_zero] at this
  exact this
theorem texts_len (g : GameT) (p : Int) : (texts g p).length ≤ (units g).length + (techsOf (plr g p).1).length := by
  unfold texts
  rw [List.length_append, List.length_map]
  have := List.length_filter_le (counts g p) (units g)
  omega
theorem phave_eq (g : GameT) (p : Int) (h : GameL g) (hb : (units g).length + (techsOf (plr g p).1).length ≤ 1000000) : tech_Have.f g p = some ((texts g p).foldl withT []) := by
  have hl := setAll_len (texts g p) []
  have ht := texts_len g p
  simp only [List.length_nil] at hl
  rw [tech_Have.f_eq, thave_eq g p h, Option.bind_some, sorted_eq _ (by omega), Option.bind_some, keys_with]
end Go.Proofs.Ytpcahneiinjdmaa

/- What is missing of a list. -/
set_option linter.unusedVariables false
set_option linter.unusedSimpArgs false
set_option maxHeartbeats 1000000
namespace Go.Proofs.Ytpcahneiinjdmaa
open Go Go.Sk
def missing (g : GameT) (p : Int) (needs : List ByteArray) : List ByteArray := needs.filter fun e => !decide (e ∈ texts g p)
theorem acc_le {a k n : Nat} (h1 : a ≤ k) (h2 : k < n) (h3 : n * 16 ≤ 140737488355328) : (a + 1) * 16 ≤ 140737488355328 := by omega
theorem tmiss_eq (g : GameT) (p : Int) (needs : List ByteArray) (h : GameL g) (hn : LF needs) : tech_Missing.f g p needs = some (missing g p needs) := by
  rw [tech_Missing.f_eq, thave_eq g p h, Option.bind_some]
  have hs := setAll_ok (texts g p) [] .nil
  have hm : ∀ e, e ∈ (setAll (texts g p) []).map (·.1) ↔ e ∈ texts g p := fun e => by rw [setAll_mem]; simp
  refine (filter_loop needs (fun acc i => tech_Missing.j0 needs needs.length i (setAll (texts g p) []) acc) (fun e => !decide (e ∈ texts g p)) (fun e => e) some (fun acc k hk ha => ?_) (fun acc _ => ?_)).trans ?_
  · rw [tech_Missing.j0_eq, lt_true hk, cond_true, idx_nat, List.getElem?_eq_getElem hk, Option.bind_some, hs.find, wr_succ hk (by unfold LF at hn; omega), List.length_singleton, decide_eq_true (acc_le ha hk hn), cond_true]
    rw [show decide (needs[k] ∈ (setAll (texts g p) []).map (·.1)) = decide (needs[k] ∈ texts g p) from decide_eq_decide.2 (hm _)]
  · rw [tech_Missing.j0_eq, lt_false (Nat.le_refl _), cond_false]
  · unfold missing
    simp
theorem rmiss_eq (g : GameT) (p : Int) (needs : List ByteArray) (h : GameL g) (hb : (units g).length + (techsOf (plr g p).1).length ≤ 1000000) (hn : LF needs) : ref29_Missing.f g p needs = some (missing g p needs) := by
  rw [ref29_Missing.f_eq, rhave_eq g p h hb, Option.bind_some]
  have hl : ((texts g p).foldl withT []).length ≤ 1000000 := by
    have := foldW_len (texts g p) []
    have := texts_len g p
    simp only [List.length_nil] at *
    omega
  have hm : ∀ e, hasT ((texts g p).foldl withT []) e = decide (e ∈ texts g p) := fun e => by rw [hasT_dec]; exact decide_eq_decide.2 (by rw [foldW_mem]; simp)
  generalize (texts g p).foldl withT [] = H at hl hm ⊢
  refine (filter_loop needs (fun acc i => ref29_Missing.j0 needs H i acc) (fun e => !decide (e ∈ texts g p)) (fun e => e) some (fun acc k hk ha => ?_) (fun acc _ => ?_)).trans ?_
  · rw [ref29_Missing.j0_eq, lt_true hk, cond_true]
    simp only [idx_nat, List.getElem?_eq_getElem hk, Option.bind_some, has_eq _ _ (by omega : H.length ≤ 9223372036854775807), hm, wr_succ hk (by unfold LF at hn; omega : needs.length ≤ 9223372036854775807), List.length_singleton]
    rw [decide_eq_true (acc_le ha hk hn), cond_true]
  · rw [ref29_Missing.j0_eq, lt_false (Nat.le_refl _), cond_false]
  · unfold missing
    simp
end Go.Proofs.Ytpcahneiinjdmaa

/- Equal lists of texts; the bounds of an argument; what small says. -/
set_option linter.unusedVariables false
set_option linter.unusedSimpArgs false
set_option maxHeartbeats 1000000
namespace Go.Proofs.Ytpcahneiinjdmaa
open Go Go.Sk
theorem same_self (a : List ByteArray) (ha : a.length ≤ 9223372036854775807) : ref29_SameTexts.f a a = some true := by
  rw [ref29_SameTexts.f_eq, bne_beq, beq_self_eq_true, Bool.not_true, cond_false]
  refine (cnt_loop a.length (fun i => ref29_SameTexts.j0 a a i) (fun _ => false) false (some true) (fun k hk => ?_) ?_).trans ?_
  · rw [ref29_SameTexts.j0_eq, lt_true hk, cond_true]
    simp only [idx_nat, List.getElem?_eq_getElem hk, Option.bind_some, beq_self_eq_true, Bool.not_true, cond_false, wr_succ hk ha]
  · rw [ref29_SameTexts.j0_eq, lt_false (Nat.le_refl _), cond_false]
  · have e : ((List.range a.length).any fun _ => false) = false := List.any_eq_false.2 fun _ _ h => Bool.false_ne_true h
    rw [e]
    rfl
theorem reach_lt : reachBytes ≤ 140737488355328 := by decide
theorem lf_of {l : List ByteArray} (h : Fits (.slice .str) l) : LF l := Nat.le_trans (show l.length * 16 ≤ reachBytes from h.1.2) reach_lt
theorem rules_L {r : RulesT} (h : Fits cRules r) : RulesL r := by
  refine ⟨h.1.1.1, h.2.2.1.1, fun u hu => ?_, fun t ht => ?_⟩
  · have hu := h.1.2 u hu
    have h2 := hu.2.2.2.2.2.2.2.2.2.2.2.2.2.2.2.2
    exact ⟨lf_of h2.1, lf_of h2.2.1, lf_of h2.2.2⟩
  · have ht := h.2.2.2 t ht
    exact lf_of ht.2.1
theorem game_L {g : GameT} (h : Fits cGame g) : GameL g := by
  have hp := h.2.2.2.2.2.2.2.1
  have hu := h.2.2.2.2.2.2.2.2.1
  refine ⟨rules_L h.2.2.2.2.2.1, hp.1.1, hu.1.1, fun p hpm => ?_⟩
  exact (hp.2 p hpm).2.2.2.2.1.1.1
end Go.Proofs.Ytpcahneiinjdmaa

/- What small and little say. -/
set_option linter.unusedVariables false
set_option linter.unusedSimpArgs false
set_option maxHeartbeats 1000000
namespace Go.Proofs.Ytpcahneiinjdmaa
open Go Go.Sk
def littleB (r : RulesT) : Bool := decide ((r.1.length : Int) ≤ 40) && decide ((r.2.2.length : Int) ≤ 40)
theorem little_eq (r : RulesT) : law29_little.f r = some (littleB r) := by
  rw [law29_little.f_eq]
  exact c1 _ _
def smallB (g : GameT) : Bool := !(plrs g).any (fun p => decide (((techsOf p).length : Int) > 60)) && (decide (((plrs g).length : Int) ≤ 20) && (decide (((units g).length : Int) ≤ 100) && littleB (rulesOf g)))
theorem small_eq (g : GameT) (h : GameL g) : law29_small.f g = some (smallB g) := by
  rw [law29_small.f_eq]
  refine (any_loop (plrs g) (fun i => law29_small.j0 (plrs g).length i g) (fun p => decide (((techsOf p).length : Int) > 60)) false (some (decide (((plrs g).length : Int) ≤ 20) && (decide (((units g).length : Int) ≤ 100) && littleB (rulesOf g)))) (fun k hk => ?_) ?_).trans ?_
  · rw [law29_small.j0_eq, lt_true hk, cond_true, idx_nat, List.getElem?_eq_getElem hk, Option.bind_some, wr_succ hk h.pl]
  · rw [law29_small.j0_eq, lt_false (Nat.le_refl _), cond_false, show law29_little.f g.2.2.2.2.2.1 = _ from little_eq (rulesOf g), Option.bind_some, c1, c1]
  · unfold smallB
    cases (plrs g).any (fun p => decide (((techsOf p).length : Int) > 60)) <;> rfl
theorem small_b {g : GameT} (hs : smallB g = true) (p : Int) : (units g).length + (techsOf (plr g p).1).length ≤ 1000000 := by
  unfold smallB at hs
  simp only [Bool.and_eq_true, Bool.not_eq_true', List.any_eq_false, decide_eq_true_eq] at hs
  obtain ⟨h1, h2, h3, h4⟩ := hs
  have : (techsOf (plr g p).1).length ≤ 60 := by
    unfold plr
    cases hu : (plrs g).find? fun x => x.1 == p with
    | some u =>
      have := h1 u (List.mem_of_find?_eq_some hu)
      show (techsOf u).length ≤ 60
      omega
    | none => exact Nat.zero_le _
  omega
end Go.Proofs.Ytpcahneiinjdmaa

/- Places in lists of texts. -/
set_option linter.unusedVariables false
set_option linter.unusedSimpArgs false
set_option maxHeartbeats 1000000
namespace Go.Proofs.Ytpcahneiinjdmaa
open Go Go.Sk
theorem contains_eq (s : List ByteArray) (v : ByteArray) (hs : s.length ≤ 9223372036854775807) : slices_Contains.f s v = some (hasT s v) := by
  have e : slices_Index.f s v = some (pos1 (s.findIdx? fun x => decide (x = v))) := by
    rw [slices_Index.f_eq, find_loop s (fun i => slices_Index.j0 s v s.length i) (fun x => decide (x = v)) (fun k => (k : Int)) (some (-1)) (fun k hk => ?hF) ?hE]
    · exact found_pos _
    case hF =>
      rw [slices_Index.j0_eq, lt_true hk, cond_true, idx_nat, List.getElem?_eq_getElem hk, Option.bind_some, wr_succ hk hs, toList_beq, show decide (v = s[k]) = decide (s[k] = v) from decide_eq_decide.2 eq_comm]
    case hE =>
      rw [slices_Index.j0_eq, lt_false (Nat.le_refl _), cond_false]
  rw [slices_Contains.f_eq, e, Option.bind_some, findIdx_ge]
  rfl
theorem place_eq (s : List ByteArray) (v : ByteArray) (hs : s.length ≤ 9223372036854775807) : slices_IndexFunc.f s v = some (pos1 (s.findIdx? fun x => decide (tb v < tb x))) := by
  rw [slices_IndexFunc.f_eq, find_loop s (fun i => slices_IndexFunc.j0 s v s.length i) (fun x => decide (tb v < tb x)) (fun k => (k : Int)) (some (-1)) (fun k hk => ?hF) ?hE]
  · exact found_pos _
  case hF =>
    rw [slices_IndexFunc.j0_eq, lt_true hk, cond_true, idx_nat, List.getElem?_eq_getElem hk, Option.bind_some, tech_Learn_1.f_eq, Option.bind_some, wr_succ hk hs, above]
  case hE =>
    rw [slices_IndexFunc.j0_eq, lt_false (Nat.le_refl _), cond_false]
theorem put_end (s : List ByteArray) (v : ByteArray) (hb : (s.length + 1) * 16 ≤ 140737488355328) (h : s.findIdx? (fun x => decide (tb v < tb x)) = none) : slices_Insert.f s.length s [v] = some (insT v s) := by
  rw [insert_at _ s [v] (by omega) (Int.le_refl _) Nat.zero_lt_one hb, insT_find, h, Int.toNat_natCast, List.take_length, List.drop_length, List.append_nil]
theorem put_at (s : List ByteArray) (v : ByteArray) (hb : (s.length + 1) * 16 ≤ 140737488355328) {i : Nat} (h : s.findIdx? (fun x => decide (tb v < tb x)) = some i) : slices_Insert.f i s [v] = some (insT v s) := by
  have hi : i < s.length := (List.findIdx?_eq_some_iff_getElem.1 h).1
  rw [insert_at _ s [v] (by omega) (by omega) Nat.zero_lt_one hb, insT_find, h, Int.toNat_natCast]
end Go.Proofs.Ytpcahneiinjdmaa

/- Learn, as the program and as the answer have it. -/
set_option linter.unusedVariables false
set_option linter.unusedSimpArgs false
set_option maxHeartbeats 1000000
namespace Go.Proofs.Ytpcahneiinjdmaa
open Go Go.Sk
abbrev noGame : GameT := (0, 0, 0, false, 0, ([], [], []), (0, 0, []), [], [], [], [], [])
abbrev setPl (g : GameT) (l : List PlayerT) : GameT := (g.1, g.2.1, g.2.2.1, g.2.2.2.1, g.2.2.2.2.1, g.2.2.2.2.2.1, g.2.2.2.2.2.2.1, l, g.2.2.2.2.2.2.2.2)
abbrev put1 (name : ByteArray) (q : PlayerT) : PlayerT := (q.1, q.2.1, q.2.2.1, q.2.2.2.1, insT name q.2.2.2.2.1, q.2.2.2.2.2)
def putF (p : Int) (name : ByteArray) : List PlayerT → List PlayerT
  | [] => []
  | q :: r => bif q.1 == p then put1 name q :: r else q :: putF p name r
def learnS (g : GameT) (p : Int) (name : ByteArray) : GameT × Int :=
  bif !(plr g p).2 then (noGame, 8) else
  bif !(findT (rulesOf g) name).2 then (noGame, 8) else
  bif hasT (techsOf (plr g p).1) name then (noGame, 7) else
  bif decide (0 < (missing g p (findT (rulesOf g) name).1.2.1).length) then (noGame, 12) else
  (setPl g (putF p name (plrs g)), 0)
structure Sm (g : GameT) : Prop where
  pl : (plrs g).length ≤ 10000
  ul : (units g).length ≤ 10000
  tl : ∀ q ∈ plrs g, (techsOf q).length ≤ 10000
theorem Sm.plr {g : GameT} (h : Sm g) (p : Int) : (techsOf (plr g p).1).length ≤ 10000 := by
  unfold Ytpcahneiinjdmaa.plr
  cases hu : (plrs g).find? fun x => x.1 == p with
  | some u => exact h.tl u (List.mem_of_find?_eq_some hu)
  | none => exact Nat.zero_le _
theorem Sm.b {g : GameT} (h : Sm g) (p : Int) : (units g).length + (techsOf (Ytpcahneiinjdmaa.plr g p).1).length ≤ 1000000 := by
  have := h.ul
  have := h.plr p
  omega
theorem Sm.of {g : GameT} (hs : smallB g = true) : Sm g := by
  unfold smallB at hs
  simp only [Bool.and_eq_true, Bool.not_eq_true', List.any_eq_false, decide_eq_true_eq] at hs
  obtain ⟨h1, h2, h3, h4⟩ := hs
  exact ⟨by omega, by omega, fun q hq => by have := h1 q hq; omega⟩
/-! ### the answer -/
theorem plen {a m n : Nat} (h1 : a + (m + 1) ≤ n) (h2 : n ≤ 10000) : (a + 1) * 64 ≤ 140737488355328 := by omega
theorem rl1_eq (g : GameT) (p : Int) (name : ByteArray) (hs : Sm g) (a : Int × Int × Int × Bool × Int × Int × Int) (m : Nat) : ∀ (k : Nat) (acc : List PlayerT), k + m = (plrs g).length → acc.length + m ≤ (plrs g).length →
    ref29_Learn.j0 p name true k g a.1 a.2.1 a.2.2.1 a.2.2.2.1 a.2.2.2.2.1 a.2.2.2.2.2.1 a.2.2.2.2.2.2 [] [] [] [] [] [] [] [] [] acc = some (setPl g (acc ++ (plrs g).drop k), 0) := by
  induction m with
  | zero =>
    intro k acc hk hb
    rw [ref29_Learn.j0_eq, lt_false (show (plrs g).length ≤ k by omega), cond_false, List.drop_of_length_le (show (plrs g).length ≤ k by omega), List.append_nil]
  | succ m ih =>
    intro k acc hk hb
    have hlt : k < (plrs g).length := by omega
    have hpl := hs.pl
    rw [ref29_Learn.j0_eq, lt_true hlt, cond_true, idx_nat, List.getElem?_eq_getElem hlt, Option.bind_some]
    simp only [Bool.not_true, cond_false, List.length_singleton]
    rw [decide_eq_true (plen hb hpl), cond_true, wr_succ hlt (by omega), ih (k + 1) (acc ++ [(plrs g)[k]]) (by omega) (by simp; omega), List.drop_eq_getElem_cons hlt]
    simp
theorem rl0_eq (g : GameT) (p : Int) (name : ByteArray) (hs : Sm g) (a : Int × Int × Int × Bool × Int × Int × Int) (m : Nat) : ∀ (k : Nat) (acc : List PlayerT), k + m = (plrs g).length → acc.length + m ≤ (plrs g).length →
    ref29_Learn.j0 p name false k g a.1 a.2.1 a.2.2.1 a.2.2.2.1 a.2.2.2.2.1 a.2.2.2.2.2.1 a.2.2.2.2.2.2 [] [] [] [] [] [] [] [] [] acc = some (setPl g (acc ++ putF p name ((plrs g).drop k)), 0) := by
  induction m with
  | zero =>
    intro k acc hk hb
    rw [ref29_Learn.j0_eq, lt_false (show (plrs g).length ≤ k by omega), cond_false, List.drop_of_length_le (show (plrs g).length ≤ k by omega)]
    simp [putF]
  | succ m ih =>
    intro k acc hk hb
    have hlt : k < (plrs g).length := by omega
    have hpl := hs.pl
    have ht := hs.tl _ (List.getElem_mem hlt)
    rw [ref29_Learn.j0_eq, lt_true hlt, cond_true, idx_nat, List.getElem?_eq_getElem hlt, Option.bind_some]
    simp only [Bool.not_false, cond_true, List.length_singleton]
    rw [show ref29_Insert.f (plrs g)[k].2.2.2.2.1 name = _ from insert29_eq (techsOf (plrs g)[k]) name (by omega), Option.bind_some]
    simp only [decide_eq_true (plen hb hpl), cond_true]
    rw [wr_succ hlt (by omega), List.drop_eq_getElem_cons hlt]
    unfold putF
    cases (plrs g)[k].1 == p with
    | true =>
      rw [cond_true, cond_true, rl1_eq g p name hs a m (k + 1) (acc ++ [put1 name (plrs g)[k]]) (by omega) (by simp; omega)]
      simp
    | false =>
      rw [cond_false, cond_false, ih (k + 1) (acc ++ [(plrs g)[k]]) (by omega) (by simp; omega)]
      simp
theorem rlearn_eq (g : GameT) (p : Int) (name : ByteArray) (h : GameL g) (hs : Sm g) : ref29_Learn.f g p name = some (learnS g p name) := by
  rw [ref29_Learn.f_eq, rplr_eq g p h.pl, Option.bind_some, show ref09_Tech.f g.2.2.2.2.2.1 name = _ from rtech_eq (rulesOf g) name h.r, Option.bind_some]
  rw [show ref29_Has.f (plr g p).1.2.2.2.2.1 name = _ from has_eq _ _ (plr_L h p), Option.bind_some]
  rw [rmiss_eq g p _ h (hs.b p) (findT_L h.r name), Option.bind_some]
  have := rl0_eq g p name hs (0, 0, 0, false, 0, 0, 0) (plrs g).length 0 [] (by omega) (by simp)
  rw [List.drop_zero, List.nil_append] at this
  rw [show ref29_Learn.j0 p name false 0 g 0 0 0 false 0 0 0 [] [] [] [] [] [] [] [] [] [] = _ from this]
  unfold learnS
  rw [show decide (((missing g p (findT (rulesOf g) name).1.2.1).length : Int) > 0) = decide (0 < (missing g p (findT (rulesOf g) name).1.2.1).length) from decide_eq_decide.2 (by omega)]
  cases (plr g p).2 <;> cases (findT (rulesOf g) name).2 <;> cases hasT (techsOf (plr g p).1) name <;> cases decide (0 < (missing g p (findT (rulesOf g) name).1.2.1).length) <;> rfl
/-! ### the program -/
theorem put_set (p : Int) (name : ByteArray) : ∀ (l : List PlayerT) (k : Nat) (q : PlayerT), l.findIdx? (fun x => x.1 == p) = some k → l[k]? = some q → l.set k (put1 name q) = putF p name l
  | [], k, q, h, _ => by simp at h
  | x :: r, k, q, h, hq => by
    rw [List.findIdx?_cons] at h
    unfold putF
    cases e : x.1 == p with
    | true =>
      rw [e] at h
      simp at h
      subst h
      simp at hq
      subst hq
      rfl
    | false =>
      rw [e] at h
      simp only [Bool.false_eq_true, if_false] at h
      cases hr : r.findIdx? (fun x => x.1 == p) with
      | none => rw [hr] at h; simp at h
      | some j =>
        rw [hr] at h
        simp at h
        subst h
        rw [cond_false, List.set_cons_succ, put_set p name r j q hr (by simpa using hq)]
theorem plr_find (g : GameT) (p : Int) : match (plrs g).findIdx? (fun x => x.1 == p) with
    | some k => ∃ hk : k < (plrs g).length, plr g p = ((plrs g)[k], true)
    | none => plr g p = (player0, false) := by
  unfold plr
  rw [find_findIdx]
  cases hf : (plrs g).findIdx? (fun x => x.1 == p) with
  | none => rfl
  | some k =>
    have hk : k < (plrs g).length := (List.findIdx?_eq_some_iff_getElem.1 hf).1
    refine ⟨hk, ?_⟩
    rw [Option.bind_some, List.getElem?_eq_getElem hk]
    rfl
theorem tlearn_eq (g : GameT) (p : Int) (name : ByteArray) (h : GameL g) (hs : Sm g) : tech_Learn.f g p name = some (learnS g p name) := by
  rw [tech_Learn.f_eq, find_eq g p h.pl, Option.bind_some, show rules_Tech.f g.2.2.2.2.2.1 name = _ from tech_eq (rulesOf g) name h.r, Option.bind_some]
  unfold learnS
  have hf := plr_find g p
  cases hi : (plrs g).findIdx? (fun x => x.1 == p) with
  | none =>
    rw [hi] at hf
    rw [show plr g p = _ from hf]
    rfl
  | some k =>
    rw [hi] at hf
    obtain ⟨hk, e⟩ := hf
    rw [e]
    have hl := hs.tl _ (List.getElem_mem hk)
    have hpl := hs.pl
    rw [show decide (pos1 (some k) < 0) = false from decide_eq_false (by show ¬ (k : Int) < 0; omega), cond_false, show pos1 (some k) = (k : Int) from rfl]
    rw [idx_nat, show g.2.2.2.2.2.2.2.1[k]? = _ from List.getElem?_eq_getElem hk, Option.bind_some]
    rw [show slices_Contains.f (plrs g)[k].2.2.2.2.1 name = _ from contains_eq _ _ (by show (techsOf (plrs g)[k]).length ≤ _; omega), Option.bind_some]
    rw [tmiss_eq g p _ h (findT_L h.r name), Option.bind_some]
    rw [show slices_Clone.f g.2.2.2.2.2.2.2.1 = _ from clone_p (plrs g) (by omega), Option.bind_some, Option.bind_some]
    rw [show slices_Clone_1.f (plrs g)[k].2.2.2.2.1 = _ from clone_t _ (by show (techsOf (plrs g)[k]).length * 16 ≤ _; omega), Option.bind_some]
    rw [place_eq _ _ (by show (techsOf (plrs g)[k]).length ≤ _; omega), Option.bind_some]
    have e1 : (decide ((0:Int) ≤ (k : Int)) && decide ((k : Int) < ((plrs g).length : Int))) = true := dec_in hk
    have hset := put_set p name (plrs g) k (plrs g)[k] hi (List.getElem?_eq_getElem hk)
    have fin : ∀ l : List ByteArray, l = insT name (techsOf (plrs g)[k]) → (bif decide ((0:Int) ≤ (k : Int)) && decide ((k : Int) < ((plrs g).length : Int)) then ((plrs g)[Int.toNat (k : Int)]?).bind fun e10 => some ((setPl g ((plrs g).set (Int.toNat (k : Int)) (e10.1, e10.2.1, e10.2.2.1, e10.2.2.2.1, l, e10.2.2.2.2.2))), (0 : Int)) else none) = some (setPl g (putF p name (plrs g)), 0) := by
      intro l hl'
      rw [e1, cond_true, Int.toNat_natCast, List.getElem?_eq_getElem hk, Option.bind_some, hl']
      rw [show (plrs g).set k ((plrs g)[k].1, (plrs g)[k].2.1, (plrs g)[k].2.2.1, (plrs g)[k].2.2.2.1, insT name (techsOf (plrs g)[k]), (plrs g)[k].2.2.2.2.2) = _ from hset]
    rw [show decide (((missing g p (findT (rulesOf g) name).1.2.1).length : Int) > 0) = decide (0 < (missing g p (findT (rulesOf g) name).1.2.1).length) from decide_eq_decide.2 (by omega)]
    cases hg : (findT (rulesOf g) name).2 <;> simp only [Bool.not_true, Bool.not_false, cond_true, cond_false]
    cases hh : hasT (techsOf (plrs g)[k]) name <;> simp only [cond_true, cond_false]
    cases hm : decide (0 < (missing g p (findT (rulesOf g) name).1.2.1).length) <;> simp only [cond_true, cond_false]
    cases hx : (plrs g)[k].2.2.2.2.1.findIdx? (fun x => decide (tb name < tb x)) with
    | none =>
      rw [show decide (pos1 none < 0) = true from rfl, cond_true, put_end _ _ (by show ((techsOf (plrs g)[k]).length + 1) * 16 ≤ _; omega) hx, Option.bind_some]
      exact fin _ rfl
    | some j =>
      rw [show decide (pos1 (some j) < 0) = false from decide_eq_false (by show ¬ (j : Int) < 0; omega), cond_false, show pos1 (some j) = (j : Int) from rfl, put_at _ _ (by show ((techsOf (plrs g)[k]).length + 1) * 16 ≤ _; omega) hx, Option.bind_some]
      exact fin _ rfl
end Go.Proofs.Ytpcahneiinjdmaa

/- The example. -/
set_option linter.unusedVariables false
set_option linter.unusedSimpArgs false
set_option maxHeartbeats 1000000
namespace Go.Proofs.Ytpcahneiinjdmaa
open Go Go.Sk
def game0 : GameT := ((0, 0, 0, Bool.false, 0, ([({ data := #[98, 97, 115, 101] }, Bool.true, Bool.false, 0, 0, 0, 0, 0, 0, 0, 0, 0, { data := #[] }, 0, 0, 0, [], [], []), ({ data := #[102, 111, 114, 103, 101] }, Bool.true, Bool.false, 0, 0, 0, 0, 0, 0, 0, 0, 0, { data := #[] }, 0, 0, 0, [{ data := #[98, 97, 115, 101] }], [], [])], [], [({ data := #[97, 114, 109, 111, 114] }, [{ data := #[102, 111, 114, 103, 101] }], 0, 0, 0, { data := #[] }, 0, 0), ({ data := #[97, 120, 101] }, [{ data := #[98, 97, 115, 101] }], 0, 0, 0, { data := #[] }, 0, 0), ({ data := #[119, 104, 101, 101, 108] }, [], 0, 0, 0, { data := #[] }, 0, 0)]), (0, 0, []), [(1, 0, 0, 0, [{ data := #[119, 104, 101, 101, 108] }], Bool.false)], [(1, 1, { data := #[98, 97, 115, 101] }, (0, 0), 0, 0, 0, 0, 0, [], []), (2, 1, { data := #[102, 111, 114, 103, 101] }, (0, 0), 0, 0, 3, 0, 0, [], [])], [], [], []))
theorem game_eq : law29_game.f = some game0 := law29_game.f_eq
abbrev tBase : ByteArray := { data := #[98, 97, 115, 101] }
abbrev tForge : ByteArray := { data := #[102, 111, 114, 103, 101] }
abbrev tArmor : ByteArray := { data := #[97, 114, 109, 111, 114] }
abbrev tAxe : ByteArray := { data := #[97, 120, 101] }
abbrev tWheel : ByteArray := { data := #[119, 104, 101, 101, 108] }
theorem game0_L : GameL game0 := by
  refine ⟨⟨by decide, by decide, fun u hu => ?_, fun t ht => ?_⟩, by decide, by decide, fun q hq => ?_⟩
  · rcases List.mem_cons.1 hu with rfl | hu
    · exact ⟨by decide, by decide, by decide⟩
    · rcases List.mem_cons.1 hu with rfl | hu
      · exact ⟨by decide, by decide, by decide⟩
      · simp at hu
  · rcases List.mem_cons.1 ht with rfl | ht
    · decide
    · rcases List.mem_cons.1 ht with rfl | ht
      · decide
      · rcases List.mem_cons.1 ht with rfl | ht
        · decide
        · simp at ht
  · rcases List.mem_cons.1 hq with rfl | hq
    · decide
    · simp at hq
theorem game0_S : Sm game0 := by
  refine ⟨by decide, by decide, fun q hq => ?_⟩
  rcases List.mem_cons.1 hq with rfl | hq
  · decide
  · simp at hq
/-! ### needs -/
def needS (r : RulesT) (name : ByteArray) : List ByteArray × Bool := bif (findU r name).2 then ((findU r name).1.2.2.2.2.2.2.2.2.2.2.2.2.2.2.2.2.1, true) else ((findT r name).1.2.1, (findT r name).2)
theorem tneeds_eq (r : RulesT) (name : ByteArray) (h : RulesL r) : tech_needs.f r name = some (needS r name) := by
  rw [tech_needs.f_eq, unit_eq r name h, Option.bind_some, tech_eq r name h, Option.bind_some]
  unfold needS
  cases (findU r name).2 <;> rfl
theorem rneeds_eq (r : RulesT) (name : ByteArray) (h : RulesL r) : ref29_Needs.f r name = some (needS r name) := by
  rw [ref29_Needs.f_eq, runit_eq r name h, Option.bind_some, rtech_eq r name h, Option.bind_some]
  unfold needS
  cases (findU r name).2 <;> rfl
theorem needS_L {r : RulesT} (h : RulesL r) (name : ByteArray) : LF (needS r name).1 := by
  unfold needS
  cases (findU r name).2 with
  | true => exact (findU_L h name).a
  | false => exact findT_L h name
abbrev rules0 : RulesT := rulesOf game0
theorem n_armor : tech_needs.f rules0 tArmor = some ([tForge], true) := (tneeds_eq _ _ game0_L.r).trans (by kernel_rfl)
theorem n_forge : tech_needs.f rules0 tForge = some ([tBase], true) := (tneeds_eq _ _ game0_L.r).trans (by kernel_rfl)
theorem n_base : tech_needs.f rules0 tBase = some ([], true) := (tneeds_eq _ _ game0_L.r).trans (by kernel_rfl)
theorem closure0 : tech_Closure.f rules0 tArmor = some ([tBase, tForge], 0) := by
  have e3 : tech_Closure.j1 rules0 [] (setAll [tForge, tBase] []) = some ([tBase, tForge], 0) := by
    rw [tech_Closure.j1_eq, sorted_eq _ (by decide), keys_with]
    kernel_rfl
  have e2 : tech_Closure.j1 rules0 [tBase] (setAll [tForge] []) = some ([tBase, tForge], 0) := by
    rw [tech_Closure.j1_eq]
    refine Eq.trans ?_ e3
    show (slices_Clone_1.f []).bind (fun r1 => (tech_needs.f rules0 tBase).bind fun r2 => (bif (Decidable.decide ((List.length r1 + List.length r2.fst) * 16 ≤ 140737488355328)) then (tech_Closure.j1 (rules0) (r1 ++ r2.fst) (setAll [tForge, tBase] [])) else none)) = _
    rw [clone_t [] (by decide), n_base]
    rfl
  have e1 : tech_Closure.j0 [tForge] rules0 [] = some ([tBase, tForge], 0) := by
    rw [tech_Closure.j0_eq]
    refine Eq.trans ?_ e2
    show (slices_Clone_1.f []).bind (fun r1 => (tech_needs.f rules0 tForge).bind fun r2 => (bif (Decidable.decide ((List.length r1 + List.length r2.fst) * 16 ≤ 140737488355328)) then (tech_Closure.j1 (rules0) (r1 ++ r2.fst) (setAll [tForge] [])) else none)) = _
    rw [clone_t [] (by decide), n_forge]
    rfl
  rw [tech_Closure.f_eq, n_armor]
  exact e1
theorem alive : law29_alive.f = some true := by
  rw [law29_alive.f_eq, game_eq, Option.bind_some, phave_eq game0 1 game0_L (game0_S.b 1), Option.bind_some]
  rw [show tech_Closure.f game0.2.2.2.2.2.1 { data := #[97, 114, 109, 111, 114] } = _ from closure0, Option.bind_some]
  rw [tlearn_eq game0 1 _ game0_L game0_S, Option.bind_some, tlearn_eq game0 1 _ game0_L game0_S, Option.bind_some, tmiss_eq game0 1 _ game0_L (by decide), Option.bind_some]
  simp only [toList_beq]
  kernel_rfl
end Go.Proofs.Ytpcahneiinjdmaa

/- A list of players is the same as itself. -/
set_option linter.unusedVariables false
set_option linter.unusedSimpArgs false
set_option maxHeartbeats 1000000
namespace Go.Proofs.Ytpcahneiinjdmaa
open Go Go.Sk
theorem players_self (a : List PlayerT) (ha : a.length ≤ 9223372036854775807) (ht : ∀ p ∈ a, (techsOf p).length ≤ 9223372036854775807) : ref29_SamePlayers.f a a = some true := by
  rw [ref29_SamePlayers.f_eq, bne_beq, beq_self_eq_true, Bool.not_true, cond_false]
  refine (cnt_loop a.length (fun i => ref29_SamePlayers.j0 a a i) (fun _ => false) false (some true) (fun k hk => ?_) ?_).trans ?_
  · rw [ref29_SamePlayers.j0_eq, lt_true hk, cond_true]
    simp only [idx_nat, List.getElem?_eq_getElem hk, Option.bind_some, bne_beq, beq_self_eq_true, Bool.not_true, cond_false, wr_succ hk ha]
    rw [same_self _ (ht _ (List.getElem_mem hk))]
    rfl
  · rw [ref29_SamePlayers.j0_eq, lt_false (Nat.le_refl _), cond_false]
  · have e : ((List.range a.length).any fun _ => false) = false := List.any_eq_false.2 fun _ _ h => Bool.false_ne_true h
    rw [e]
    rfl
end Go.Proofs.Ytpcahneiinjdmaa

/- Rules are the same as themselves. -/
set_option linter.unusedVariables false
set_option linter.unusedSimpArgs false
set_option maxHeartbeats 1000000
namespace Go.Proofs.Ytpcahneiinjdmaa
open Go Go.Sk
theorem names_self (a : List ByteArray) (ha : a.length ≤ 9223372036854775807) : ref09_SameNames.f a a = some true := by
  rw [ref09_SameNames.f_eq, bne_beq, beq_self_eq_true, Bool.not_true, cond_false]
  refine (cnt_loop a.length (fun i => ref09_SameNames.j0 a a i) (fun _ => false) false (some true) (fun k hk => ?_) ?_).trans ?_
  · rw [ref09_SameNames.j0_eq, lt_true hk, cond_true]
    simp only [idx_nat, List.getElem?_eq_getElem hk, Option.bind_some, beq_self_eq_true, Bool.not_true, cond_false, wr_succ hk ha]
  · rw [ref09_SameNames.j0_eq, lt_false (Nat.le_refl _), cond_false]
  · have e : ((List.range a.length).any fun _ => false) = false := List.any_eq_false.2 fun _ _ h => Bool.false_ne_true h
    rw [e]
    rfl
theorem lf_len {l : List ByteArray} (h : LF l) : l.length ≤ 9223372036854775807 := by unfold LF at h; omega
theorem unit_self (u : UnitTypeT) (h : UnitL u) : ref09_SameUnit.f u u = some true := by
  rw [ref09_SameUnit.f_eq]
  simp only [beq_self_eq_true, cond_true]
  rw [ref09_SameUnit.j0_eq]
  simp only [beq_self_eq_true, cond_true]
  rw [names_self _ (lf_len h.a), Option.bind_some, cond_true, names_self _ (lf_len h.b), Option.bind_some, cond_true, names_self _ (lf_len h.c), Option.bind_some, ref09_SameUnit.j1_eq]
theorem tech_self (t : TechT) (h : LF t.2.1) : ref09_SameTech.f t t = some true := by
  rw [ref09_SameTech.f_eq]
  simp only [beq_self_eq_true, cond_true]
  rw [names_self _ (lf_len h), Option.bind_some, cond_true]
theorem any_no (n : Nat) : ((List.range n).any fun _ => false) = false := List.any_eq_false.2 fun _ _ h => Bool.false_ne_true h
theorem rules_self (r : RulesT) (h : RulesL r) (hw : r.2.1.length ≤ 9223372036854775807) : ref09_Same.f r r = some true := by
  rw [ref09_Same.f_eq]
  simp only [bne_beq, beq_self_eq_true, Bool.not_true, cond_false]
  have e2 : ref09_Same.j2 0 r r = some true := by
    refine (cnt_loop r.2.2.length (fun i => ref09_Same.j2 i r r) (fun _ => false) false (some true) (fun k hk => ?_) ?_).trans ?_
    · rw [ref09_Same.j2_eq, lt_true hk, cond_true]
      simp only [idx_nat, List.getElem?_eq_getElem hk, Option.bind_some, cond_false, wr_succ hk h.tl]
      rw [tech_self _ (h.t _ (List.getElem_mem hk))]
      rfl
    · rw [ref09_Same.j2_eq, lt_false (Nat.le_refl _), cond_false]
    · rw [any_no]; rfl
  have e1 : ref09_Same.j1 0 r r = some true := by
    refine (cnt_loop r.2.1.length (fun i => ref09_Same.j1 i r r) (fun _ => false) false (ref09_Same.j2 0 r r) (fun k hk => ?_) ?_).trans ?_
    · rw [ref09_Same.j1_eq, lt_true hk, cond_true]
      simp only [idx_nat, List.getElem?_eq_getElem hk, Option.bind_some, beq_self_eq_true, Bool.and_self, Bool.not_true, cond_false, wr_succ hk hw]
    · rw [ref09_Same.j1_eq, lt_false (Nat.le_refl _), cond_false]
    · rw [any_no]; exact e2
  refine (cnt_loop r.1.length (fun i => ref09_Same.j0 i r r) (fun _ => false) false (ref09_Same.j1 0 r r) (fun k hk => ?_) ?_).trans ?_
  · rw [ref09_Same.j0_eq, lt_true hk, cond_true]
    simp only [idx_nat, List.getElem?_eq_getElem hk, Option.bind_some, cond_false, wr_succ hk h.ul]
    rw [unit_self _ (h.u _ (List.getElem_mem hk))]
    rfl
  · rw [ref09_Same.j0_eq, lt_false (Nat.le_refl _), cond_false]
  · rw [any_no]; exact e1
end Go.Proofs.Ytpcahneiinjdmaa

/- Have and Missing; Learn: the laws. -/
set_option linter.unusedVariables false
set_option linter.unusedSimpArgs false
set_option maxHeartbeats 1000000
namespace Go.Proofs.Ytpcahneiinjdmaa
open Go Go.Sk
theorem have_len (g : GameT) (p : Int) (hs : Sm g) : ((texts g p).foldl withT []).length ≤ 1000000 := by
  have h1 := foldW_len (texts g p) []
  have h2 := texts_len g p
  have h3 := hs.b p
  simp only [List.length_nil] at h1
  omega
theorem law_has (g : GameT) (p : Int) (needs : List ByteArray) (h : GameL g) : law29_TechHas.f g p needs = some true := by
  rw [law29_TechHas.f_eq, small_eq g h, Option.bind_some, alive]
  cases hs : smallB g with
  | false => rfl
  | true =>
    have hS := Sm.of hs
    by_cases hn : (needs.length : Int) > 100
    · rw [decide_eq_true hn]; rfl
    · rw [decide_eq_false hn]
      have hl := have_len g p hS
      have hn' : LF needs := by unfold LF; omega
      have hm : (missing g p needs).length ≤ needs.length := List.length_filter_le _ _
      simp only [phave_eq g p h (hS.b p), rhave_eq g p h (hS.b p), Option.bind_some]
      rw [same_self _ (by omega)]
      simp only [tmiss_eq g p needs h hn', rmiss_eq g p needs h (hS.b p) hn', Option.bind_some]
      rw [same_self _ (by omega)]
      rfl
theorem putF_len (p : Int) (name : ByteArray) : ∀ l : List PlayerT, (putF p name l).length = l.length
  | [] => rfl
  | q :: r => by
    unfold putF
    cases q.1 == p with
    | true => rfl
    | false => exact congrArg (· + 1) (putF_len p name r)
theorem putF_mem (p : Int) (name : ByteArray) : ∀ (l : List PlayerT) (x : PlayerT), x ∈ putF p name l → ∃ q ∈ l, x = q ∨ x = put1 name q
  | [], x, h => by simp [putF] at h
  | q :: r, x, h => by
    unfold putF at h
    cases e : q.1 == p with
    | true =>
      rw [e, cond_true] at h
      rcases List.mem_cons.1 h with rfl | h
      · exact ⟨q, List.mem_cons_self, .inr rfl⟩
      · exact ⟨x, List.mem_cons_of_mem _ h, .inl rfl⟩
    | false =>
      rw [e, cond_false] at h
      rcases List.mem_cons.1 h with rfl | h
      · exact ⟨x, List.mem_cons_self, .inl rfl⟩
      · obtain ⟨y, hy, hx⟩ := putF_mem p name r x h
        exact ⟨y, List.mem_cons_of_mem _ hy, hx⟩
theorem putF_other (p : Int) (name : ByteArray) : ∀ (l : List PlayerT) (k : Nat) (q : PlayerT), l[k]? = some q → (q.1 == p) = false → (putF p name l)[k]? = some q
  | [], k, q, h, _ => by simp at h
  | x :: r, 0, q, h, hq => by
    simp at h
    subst h
    unfold putF
    rw [hq]
    rfl
  | x :: r, k + 1, q, h, hq => by
    unfold putF
    cases x.1 == p with
    | true => exact h
    | false => exact putF_other p name r k q h hq
theorem putF_find (p : Int) (name : ByteArray) : ∀ (l : List PlayerT), (putF p name l).find? (fun x => x.1 == p) = (l.find? (fun x => x.1 == p)).map (put1 name)
  | [] => rfl
  | x :: r => by
    unfold putF
    rw [List.find?_cons]
    cases e : x.1 == p with
    | true => rw [cond_true, List.find?_cons, show ((put1 name x).1 == p) = true from e]; rfl
    | false => rw [cond_false, List.find?_cons, e]; exact putF_find p name r
theorem sm_techs {g : GameT} (hs : smallB g = true) {q : PlayerT} (hq : q ∈ plrs g) : (techsOf q).length ≤ 60 := by
  unfold smallB at hs
  simp only [Bool.and_eq_true, Bool.not_eq_true', List.any_eq_false, decide_eq_true_eq] at hs
  have := hs.1 q hq
  omega
theorem put_T {g : GameT} (hs : smallB g = true) (p : Int) (name : ByteArray) : ∀ q ∈ putF p name (plrs g), (techsOf q).length ≤ 61 := by
  intro q hq
  obtain ⟨x, hx, h | h⟩ := putF_mem p name _ q hq
  · have := sm_techs hs hx
    subst h
    omega
  · have := sm_techs hs hx
    subst h
    show (insT name (techsOf x)).length ≤ 61
    rw [insT_len]
    omega
theorem put_S {g : GameT} (hs : smallB g = true) (p : Int) (name : ByteArray) : Sm (setPl g (putF p name (plrs g))) := by
  have hS := Sm.of hs
  refine ⟨?_, hS.ul, fun q hq => ?_⟩
  · show (putF p name (plrs g)).length ≤ _
    rw [putF_len]
    exact hS.pl
  · have := put_T hs p name q hq
    omega
theorem put_L {g : GameT} (h : GameL g) (hs : smallB g = true) (p : Int) (name : ByteArray) : GameL (setPl g (putF p name (plrs g))) := by
  refine ⟨h.r, ?_, h.ul, fun q hq => ?_⟩
  · show (putF p name (plrs g)).length ≤ _
    rw [putF_len]
    exact h.pl
  · have := put_T hs p name q hq
    omega
/-- what Learn comes to: it fails with no game, or the player has one more -/
theorem learn_cases (g : GameT) (p : Int) (name : ByteArray) : (learnS g p name).2 ≠ 0 ∧ (learnS g p name).1 = noGame ∨
    learnS g p name = (setPl g (putF p name (plrs g)), 0) ∧ (plr g p).2 = true ∧ (findT (rulesOf g) name).2 = true ∧ hasT (techsOf (plr g p).1) name = false := by
  unfold learnS
  cases (plr g p).2 <;> cases (findT (rulesOf g) name).2 <;> cases hasT (techsOf (plr g p).1) name <;> cases decide (0 < (missing g p (findT (rulesOf g) name).1.2.1).length) <;>
    first | exact .inr ⟨rfl, rfl, rfl, rfl⟩ | exact .inl ⟨(by decide : (8 : Int) ≠ 0), rfl⟩ | exact .inl ⟨(by decide : (7 : Int) ≠ 0), rfl⟩ | exact .inl ⟨(by decide : (12 : Int) ≠ 0), rfl⟩
theorem law_learns (g : GameT) (p : Int) (name : ByteArray) (h : GameL g) (hw : (rulesOf g).2.1.length ≤ 9223372036854775807) : law29_TechLearns.f g p name = some true := by
  rw [law29_TechLearns.f_eq, small_eq g h, Option.bind_some, alive]
  cases hs : smallB g with
  | false => rfl
  | true =>
    have hS := Sm.of hs
    simp only [tlearn_eq g p name h hS, rlearn_eq g p name h hS, Option.bind_some, Bool.not_true, cond_false]
    rcases learn_cases g p name with ⟨h1, h2⟩ | ⟨h1, h2, h3, h4⟩
    · rw [h2, bne_self_eq_false, show ((learnS g p name).2 != 0) = true from bne_iff_ne.2 h1]
      rfl
    · rw [h1]
      have hL := put_L h hs p name
      have hT := put_T hs p name
      dsimp only
      rw [show ref29_SamePlayers.f (putF p name (plrs g)) (putF p name (plrs g)) = _ from players_self _ hL.pl hL.tl]
      rw [show ref09_Same.f g.2.2.2.2.2.1 g.2.2.2.2.2.1 = _ from rules_self (rulesOf g) h.r hw]
      simp only [Option.bind_some, beq_self_eq_true, bne_self_eq_false, bne_beq, Bool.not_true, Bool.not_false, cond_true, cond_false]
end Go.Proofs.Ytpcahneiinjdmaa

/- What Learn keeps. -/
set_option linter.unusedVariables false
set_option linter.unusedSimpArgs false
set_option maxHeartbeats 1000000
namespace Go.Proofs.Ytpcahneiinjdmaa
open Go Go.Sk
theorem plr_put (g : GameT) (p : Int) (name : ByteArray) (h : (plr g p).2 = true) : plr (setPl g (putF p name (plrs g))) p = (put1 name (plr g p).1, true) := by
  unfold plr at h ⊢
  show first1 (fun x => (x, true)) (player0, false) ((putF p name (plrs g)).find? fun x => x.1 == p) = _
  rw [putF_find]
  cases hf : (plrs g).find? fun x => x.1 == p with
  | none => rw [hf] at h; cases h
  | some q => rfl
theorem texts_put (g : GameT) (p : Int) (name : ByteArray) (h : (plr g p).2 = true) : ∀ e, e ∈ texts (setPl g (putF p name (plrs g))) p ↔ e = name ∨ e ∈ texts g p := by
  intro e
  unfold texts
  rw [plr_put g p name h, List.mem_append, List.mem_append]
  show e ∈ ((units g).filter (counts g p)).map (fun e => e.2.2.1) ∨ e ∈ insT name (techsOf (plr g p).1) ↔ _
  rw [insT_mem]
  constructor
  · rintro (h | h | h) <;> simp [h]
  · rintro (h | h | h) <;> simp [h]
theorem has_have (g : GameT) (p : Int) (e : ByteArray) : hasT ((texts g p).foldl withT []) e = decide (e ∈ texts g p) := by
  rw [hasT_dec]
  exact decide_eq_decide.2 (by rw [foldW_mem]; simp)
theorem law_keeps (g : GameT) (p : Int) (name : ByteArray) (h : GameL g) : law29_TechKeeps.f g p name = some true := by
  rw [law29_TechKeeps.f_eq, small_eq g h, Option.bind_some, alive]
  cases hs : smallB g with
  | false => rfl
  | true =>
    have hS := Sm.of hs
    simp only [tlearn_eq g p name h hS, Option.bind_some, Bool.not_true, cond_false]
    rcases learn_cases g p name with ⟨h1, h2⟩ | ⟨h1, h2, h3, h4⟩
    · rw [show ((learnS g p name).2 != 0) = true from bne_iff_ne.2 h1]
      rfl
    · rw [h1]
      have hL' := put_L h hs p name
      have hS' := put_S hs p name
      have ht := texts_put g p name h2
      have hp' := plr_put g p name h2
      have hlen : (plrs (setPl g (putF p name (plrs g)))).length = (plrs g).length := putF_len p name _
      have hget : ∀ (k : Nat) q, (plrs g)[k]? = some q → (q.1 == p) = false → (plrs (setPl g (putF p name (plrs g))))[k]? = some q := putF_other p name (plrs g)
      have hr : rulesOf (setPl g (putF p name (plrs g))) = rulesOf g := rfl
      generalize hg' : setPl g (putF p name (plrs g)) = g' at *
      rw [show (((g', (0 : Int)) : GameT × Int).2 != 0) = false from rfl, cond_false]
      dsimp only
      rw [phave_eq g p h (hS.b p), Option.bind_some, phave_eq g' p hL' (hS'.b p), Option.bind_some]
      have l1 := have_len g p hS
      have l2 := have_len g' p hS'
      have m1 := has_have g p
      have m2 := has_have g' p
      have in1 : ∀ e ∈ (texts g p).foldl withT [], e ∈ texts g p := fun e he => by rw [foldW_mem] at he; simpa using he
      have in2 : ∀ e ∈ (texts g' p).foldl withT [], e ∈ texts g' p := fun e he => by rw [foldW_mem] at he; simpa using he
      generalize (texts g p).foldl withT [] = B at *
      generalize (texts g' p).foldl withT [] = A at *
      rw [has_eq A name (by omega), Option.bind_some, m2 name, decide_eq_true ((ht name).2 (.inl rfl)), Bool.not_true, cond_false]
      rw [show (((plrs g').length : Int) != ((plrs g).length : Int)) = false from by rw [hlen]; simp, cond_false]
      have e2 : law29_TechKeeps.j2 p name (plrs g).length 0 g g' = some true := by
        refine (any_loop (plrs g) (fun i => law29_TechKeeps.j2 p name (plrs g).length i g g') (fun _ => false) false (some true) (fun k hk => ?_) ?_).trans ?_
        · have hk' : k < (plrs g').length := by omega
          have hpl := h.pl
          rw [law29_TechKeeps.j2_eq, lt_true hk, cond_true, idx_nat, show g.2.2.2.2.2.2.2.1[k]? = _ from List.getElem?_eq_getElem hk, Option.bind_some, idx_nat, show g'.2.2.2.2.2.2.2.1[k]? = _ from List.getElem?_eq_getElem hk', Option.bind_some, wr_succ hk hpl]
          cases hq : ((plrs g)[k].1 == p) with
          | true => rw [bne_beq, hq]; rfl
          | false =>
            have e := hget k _ (List.getElem?_eq_getElem hk) hq
            rw [List.getElem?_eq_getElem hk'] at e
            simp only [Option.some.injEq] at e
            rw [bne_beq, hq, Bool.not_false, cond_true, e, players_self [(plrs g)[k]] (by simp) (fun q hq => by
              simp at hq
              subst hq
              exact h.tl _ (List.getElem_mem hk))]
            rfl
        · rw [law29_TechKeeps.j2_eq, lt_false (Nat.le_refl _), cond_false, tlearn_eq g' p name hL' hS', Option.bind_some, alive]
          have : (learnS g' p name).2 = 7 := by
            unfold learnS
            rw [hp', hr, h3, show hasT (techsOf (put1 name (plr g p).1)) name = true from by rw [hasT_dec]; exact decide_eq_true (insT_mem.2 (.inl rfl))]
            rfl
          rw [this]
          rfl
        · have e : ((plrs g).any fun _ => false) = false := List.any_eq_false.2 fun _ _ h => Bool.false_ne_true h
          rw [e]
          rfl
      have e1 : law29_TechKeeps.j1 p name B.length 0 g g' B A = some true := by
        refine (any_loop B (fun i => law29_TechKeeps.j1 p name B.length i g g' B A) (fun e => !hasT A e) false (law29_TechKeeps.j2 p name (plrs g).length 0 g g') (fun k hk => ?_) ?_).trans ?_
        · rw [law29_TechKeeps.j1_eq, dec_in hk, lt_true hk, cond_true, cond_true, Int.toNat_natCast, List.getElem?_eq_getElem hk, Option.bind_some, has_eq A _ (by omega), Option.bind_some, wr_succ hk (by omega)]
        · rw [law29_TechKeeps.j1_eq, lt_false (Nat.le_refl _), cond_false]
        · have e : (B.any fun e => !hasT A e) = false := List.any_eq_false.2 fun x hx hn => by
            rw [m2, decide_eq_true ((ht x).2 (.inr (in1 x hx)))] at hn
            exact absurd hn (by decide)
          rw [e]
          exact e2
      refine (any_loop A (fun i => law29_TechKeeps.j0 p name A.length i g g' B A) (fun e => !decide (e = name) && !hasT B e) false (law29_TechKeeps.j1 p name B.length 0 g g' B A) (fun k hk => ?_) ?_).trans ?_
      · rw [law29_TechKeeps.j0_eq]
        simp only [dec_in hk, lt_true hk, cond_true, Int.toNat_natCast, List.getElem?_eq_getElem hk, Option.bind_some, has_eq B _ (show B.length ≤ 9223372036854775807 by omega), wr_succ hk (show A.length ≤ 9223372036854775807 by omega), toList_beq]
        cases decide (A[k] = name) <;> cases hasT B A[k] <;> rfl
      · rw [law29_TechKeeps.j0_eq, lt_false (Nat.le_refl _), cond_false]
      · have e : (A.any fun e => !decide (e = name) && !hasT B e) = false := List.any_eq_false.2 fun x hx hn => by
          rw [m1] at hn
          simp only [Bool.and_eq_true, Bool.not_eq_true', decide_eq_false_iff_not] at hn
          exact ((ht x).1 (in2 x hx)).elim hn.1 hn.2
        rw [e]
        exact e1
end Go.Proofs.Ytpcahneiinjdmaa

/- Closures: both sides list what can be reached. -/
set_option linter.unusedVariables false
set_option linter.unusedSimpArgs false
set_option maxHeartbeats 2000000
namespace Go.Proofs.Ytpcahneiinjdmaa
open Go Go.Sk

abbrev TL := List ByteArray
def ndS (r : RulesT) (s : ByteArray) : TL := (needS r s).1
abbrev uNeeds (u : UnitTypeT) : TL := u.2.2.2.2.2.2.2.2.2.2.2.2.2.2.2.2.1
/-- few rules, with short lists of needs -/
structure RS (r : RulesT) : Prop where
  L : RulesL r
  ul : List.length (α := UnitTypeT) r.1 ≤ 40
  tl : List.length (α := TechT) r.2.2 ≤ 40
  un : ∀ u ∈ (r.1 : List UnitTypeT), (uNeeds u).length ≤ 1048576
  tn : ∀ t ∈ (r.2.2 : List TechT), (t.2.1 : TL).length ≤ 1048576
def namesS (r : RulesT) : TL := (r.1 : List UnitTypeT).map (·.1) ++ (r.2.2 : List TechT).map (·.1)
def allN (r : RulesT) : TL := (r.1 : List UnitTypeT).flatMap uNeeds ++ (r.2.2 : List TechT).flatMap (·.2.1)
theorem first1_cases {α β : Type} (f : α → β) (d : β) (o : Option α) : (o = none ∧ first1 f d o = d) ∨ ∃ x, o = some x ∧ first1 f d o = f x := by
  cases o with
  | none => exact .inl ⟨rfl, rfl⟩
  | some x => exact .inr ⟨x, rfl, rfl⟩
theorem nd_cases (r : RulesT) (s : ByteArray) : ndS r s = [] ∨ (∃ u ∈ (r.1 : List UnitTypeT), u.1 = s ∧ ndS r s = uNeeds u) ∨ ∃ t ∈ (r.2.2 : List TechT), t.1 = s ∧ ndS r s = t.2.1 := by
  unfold ndS needS
  rcases first1_cases (fun u : UnitTypeT => (u, true)) (unit0, false) (r.1.find? fun u => decide (u.1 = s)) with ⟨_, h2⟩ | ⟨u, h1, h2⟩
  · have e : findU r s = (unit0, false) := h2
    rw [e]
    rcases first1_cases (fun t : TechT => (t, true)) (tech0, false) (r.2.2.find? fun t => decide (t.1 = s)) with ⟨_, h4⟩ | ⟨t, h3, h4⟩
    · have e2 : findT r s = (tech0, false) := h4
      rw [e2]
      exact .inl rfl
    · have e2 : findT r s = (t, true) := h4
      rw [e2]
      exact .inr (.inr ⟨t, List.mem_of_find?_eq_some h3, by simpa using List.find?_some h3, rfl⟩)
  · have e : findU r s = (u, true) := h2
    rw [e]
    exact .inr (.inl ⟨u, List.mem_of_find?_eq_some h1, by simpa using List.find?_some h1, rfl⟩)
theorem nd_len {r : RulesT} (h : RS r) (s : ByteArray) : (ndS r s).length ≤ 1048576 := by
  rcases nd_cases r s with e | ⟨u, hu, _, e⟩ | ⟨t, ht, _, e⟩
  · rw [e]; simp
  · rw [e]; exact h.un u hu
  · rw [e]; exact h.tn t ht
theorem nd_name {r : RulesT} {s : ByteArray} (h : ndS r s ≠ []) : s ∈ namesS r := by
  rcases nd_cases r s with e | ⟨u, hu, e1, e⟩ | ⟨t, ht, e1, e⟩
  · exact absurd e h
  · exact List.mem_append.2 (.inl (List.mem_map.2 ⟨u, hu, e1⟩))
  · exact List.mem_append.2 (.inr (List.mem_map.2 ⟨t, ht, e1⟩))
theorem nd_all {r : RulesT} {s x : ByteArray} (h : x ∈ ndS r s) : x ∈ allN r := by
  rcases nd_cases r s with e | ⟨u, hu, e1, e⟩ | ⟨t, ht, e1, e⟩
  · rw [e] at h; simp at h
  · rw [e] at h
    exact List.mem_append.2 (.inl (List.mem_flatMap.2 ⟨u, hu, h⟩))
  · rw [e] at h
    exact List.mem_append.2 (.inr (List.mem_flatMap.2 ⟨t, ht, h⟩))
theorem flat_len {α : Type} (f : α → TL) (B : Nat) : ∀ (l : List α), (∀ x ∈ l, (f x).length ≤ B) → (l.flatMap f).length ≤ l.length * B
  | [], _ => by simp
  | x :: r, h => by
    have h1 := h x (by simp)
    have h2 := flat_len f B r (fun y hy => h y (by simp [hy]))
    rw [List.flatMap_cons, List.length_append, List.length_cons, Nat.add_mul, Nat.one_mul]
    omega
theorem all_len {r : RulesT} (h : RS r) : (allN r).length ≤ 83886080 := by
  have h1 := flat_len uNeeds 1048576 r.1 h.un
  have h2 := flat_len (fun t : TechT => t.2.1) 1048576 r.2.2 h.tn
  have h3 := Nat.mul_le_mul_right 1048576 h.ul
  have h4 := Nat.mul_le_mul_right 1048576 h.tl
  unfold allN
  rw [List.length_append]
  omega
theorem names_len {r : RulesT} (h : RS r) : (namesS r).length ≤ 80 := by
  have h1 := h.ul
  have h2 := h.tl
  unfold namesS
  rw [List.length_append, List.length_map, List.length_map]
  omega
/-- what can be reached from some names -/
inductive Rch (r : RulesT) (l : TL) : ByteArray → Prop
  | base {x : ByteArray} (h : x ∈ l) : Rch r l x
  | step {s x : ByteArray} (hs : Rch r l s) (h : x ∈ ndS r s) : Rch r l x
theorem Rch.mem {r : RulesT} {l : TL} {x : ByteArray} (h : Rch r l x) : x ∈ l ++ allN r := by
  cases h with
  | base h => exact List.mem_append.2 (.inl h)
  | step hs h => exact List.mem_append.2 (.inr (nd_all h))
theorem nodup_len : ∀ {l m : TL}, l.Nodup → (∀ x ∈ l, x ∈ m) → l.length ≤ m.length
  | [], m, _, _ => Nat.zero_le _
  | x :: l, m, hn, hs => by
    have hn' := List.nodup_cons.1 hn
    have hx := hs x (by simp)
    have h1 := nodup_len (l := l) (m := m.filter fun y => decide (y ≠ x)) hn'.2 (fun y hy => by
      have hne : y ≠ x := fun e => hn'.1 (e ▸ hy)
      exact List.mem_filter.2 ⟨hs y (by simp [hy]), decide_eq_true hne⟩)
    have h2 : (m.filter fun y => decide (y ≠ x)).length < m.length := List.length_filter_lt_length_iff_exists.2 ⟨x, hx, by simp⟩
    simp only [List.length_cons]
    omega
theorem nodup_eq : ∀ {l m : TL}, l.Nodup → (∀ x ∈ l, x ∈ m) → m.length ≤ l.length → m.Nodup → ∀ x ∈ m, x ∈ l := fun {l m} hl hs hlen hm x hx => by
  refine Classical.byContradiction fun hn => ?_
  have h1 := nodup_len (l := x :: l) (m := m) (List.nodup_cons.2 ⟨hn, hl⟩) (fun y hy => by
    rcases List.mem_cons.1 hy with rfl | hy
    · exact hx
    · exact hs y hy)
  simp only [List.length_cons] at h1
  omega
/-! ### the program's side -/
abbrev keysS (es : List (ByteArray × Bool)) : TL := es.map (·.1)
structure PInv (r : RulesT) (l w : TL) (es : List (ByteArray × Bool)) : Prop where
  set : SetOf es
  kr : ∀ x ∈ keysS es, Rch r l x
  wr : ∀ x ∈ w, Rch r l x
  b : ∀ x ∈ l, x ∈ keysS es ∨ x ∈ w
  c : ∀ s ∈ keysS es, ∀ x ∈ ndS r s, x ∈ keysS es ∨ x ∈ w
  d : w.length ≤ 1048576 * (1 + ((keysS es).filter fun s => decide (s ∈ namesS r)).length)
theorem PInv.len {r : RulesT} {l w : TL} {es : List (ByteArray × Bool)} (h : PInv r l w es) (hr : RS r) : w.length ≤ 84934656 := by
  have h1 : ((keysS es).filter fun s => decide (s ∈ namesS r)).length ≤ (namesS r).length := nodup_len (List.Pairwise.filter _ h.set.nd) fun x hx => by
    have := (List.mem_filter.1 hx).2
    simpa using this
  have h2 := names_len hr
  have h3 := h.d
  have h4 : 1048576 * (1 + ((keysS es).filter fun s => decide (s ∈ namesS r)).length) ≤ 1048576 * 81 := Nat.mul_le_mul_left _ (by omega)
  omega
theorem keys_set {es : List (ByteArray × Bool)} {s : ByteArray} (h : s ∉ keysS es) : keysS (mapSet .str .bool es s true) = keysS es ++ [s] := by
  have := mapSet_keys s es
  rw [if_neg h] at this
  exact this
theorem prog_j1 {r : RulesT} (hr : RS r) {l : TL} (hl : l.length ≤ 1048576) : ∀ (t : Nat) (w : TL) (es : List (ByteArray × Bool)), ((l ++ allN r).length - (keysS es).length) * 1048577 + w.length = t → PInv r l w es →
    ∃ L, tech_Closure.j1 r w es = some (L, 0) ∧ Asc L ∧ ∀ x, x ∈ L ↔ Rch r l x := by
  intro t
  induction t using Nat.strongRecOn with
  | ind t ih =>
    intro w es ht hI
    have hkl := nodup_len hI.set.nd (fun x hx => (hI.kr x hx).mem)
    have hal := all_len hr
    have hul : (l ++ allN r).length ≤ 84934656 := by rw [List.length_append]; omega
    have hk : es.length * 16 ≤ 140737488355328 := by
      have h1 := hkl
      simp only [List.length_map] at h1
      omega
    cases w with
    | nil =>
      refine ⟨sortTexts (keysS es), ?_, sortTexts_asc hI.set.nd, fun x => ?_⟩
      · rw [tech_Closure.j1_eq, sorted_eq es hk]; rfl
      · rw [sortTexts_mem]
        refine ⟨hI.kr x, fun h => ?_⟩
        induction h with
        | base h => exact (hI.b _ h).resolve_right (by simp)
        | step hs h ih => exact (hI.c _ ih _ h).resolve_right (by simp)
    | cons s w =>
      have hwl := hI.len hr
      simp only [List.length_cons] at hwl ht
      have hlen : ((s :: w).length : Int) > 0 := by simp
      have e1 : List.take (Int.toNat (((s :: w).length : Int) - 1)) (List.drop 1 (s :: w)) = w := by
        rw [show Int.toNat (((s :: w).length : Int) - 1) = w.length by simp]
        simp
      have hf := hI.set.find s
      have hstep : tech_Closure.j1 r (s :: w) es = (bif decide (s ∈ keysS es) then tech_Closure.j1 r w es else tech_Closure.j1 r (w ++ ndS r s) (mapSet .str .bool es s true)) := by
        have hn := nd_len hr s
        rw [tech_Closure.j1_eq, decide_eq_true hlen, cond_true, e1, clone_t w (by unfold LF; omega)]
        simp only [List.getElem?_cons_zero, Option.bind_some, hf, tneeds_eq r s hr.L]
        rw [show (needS r s).1 = ndS r s from rfl, decide_eq_true (show (w.length + (ndS r s).length) * 16 ≤ 140737488355328 by omega),
          decide_eq_true (show (1 : Int) ≤ ((s :: w).length : Int) by simp; omega), decide_eq_true (show ((s :: w).length : Int) ≤ ((s :: w).length : Int) by omega),
          decide_eq_true (show 1 + Int.toNat (((s :: w).length : Int) - 1) ≤ (s :: w).length by simp; omega)]
        rfl
      rw [hstep]
      by_cases hsk : s ∈ keysS es
      · rw [decide_eq_true hsk, cond_true]
        refine ih _ ?_ w es rfl ⟨hI.set, hI.kr, fun x hx => hI.wr x (by simp [hx]), fun x hx => ?_, fun s' hs' x hx => ?_, ?_⟩
        · omega
        · rcases hI.b x hx with h | h
          · exact .inl h
          · rcases List.mem_cons.1 h with rfl | h
            · exact .inl hsk
            · exact .inr h
        · rcases hI.c s' hs' x hx with h | h
          · exact .inl h
          · rcases List.mem_cons.1 h with rfl | h
            · exact .inl hsk
            · exact .inr h
        · have := hI.d
          simp only [List.length_cons] at this
          omega
      · rw [decide_eq_false hsk, cond_false]
        have hke := keys_set hsk
        have hn := nd_len hr s
        have hset := hI.set.set s
        have hsr := hI.wr s (by simp)
        have hkr' : ∀ x ∈ keysS (mapSet .str .bool es s true), Rch r l x := fun x hx => by
          rcases set_mem.1 hx with h | rfl
          · exact hI.kr x h
          · exact hsr
        have hkl' := nodup_len hset.nd (fun x hx => (hkr' x hx).mem)
        have hkl2 : (keysS (mapSet .str .bool es s true)).length = (keysS es).length + 1 := by rw [hke]; simp
        have hin : ∀ x, x ∈ keysS es → x ∈ keysS (mapSet .str .bool es s true) := fun x hx => set_mem.2 (.inl hx)
        refine ih _ ?_ (w ++ ndS r s) _ rfl ⟨hset, hkr', fun x hx => ?_, fun x hx => ?_, fun s' hs' x hx => ?_, ?_⟩
        · have hwn : (w ++ ndS r s).length = w.length + (ndS r s).length := List.length_append ..
          rw [hkl2, hwn]
          have h5 : (l ++ allN r).length - (keysS es).length = ((l ++ allN r).length - ((keysS es).length + 1)) + 1 := by
            rw [show (List.map (fun x => x.fst) (mapSet Ty.str Ty.bool es s true)).length = (keysS es).length + 1 from hkl2] at hkl'
            omega
          rw [h5, Nat.add_mul] at ht
          omega
        · rcases List.mem_append.1 hx with h | h
          · exact hI.wr x (by simp [h])
          · exact .step hsr h
        · rcases hI.b x hx with h | h
          · exact .inl (hin x h)
          · rcases List.mem_cons.1 h with rfl | h
            · exact .inl (set_mem.2 (.inr rfl))
            · exact .inr (List.mem_append.2 (.inl h))
        · rcases set_mem.1 hs' with h | rfl
          · rcases hI.c s' h x hx with h | h
            · exact .inl (hin x h)
            · rcases List.mem_cons.1 h with rfl | h
              · exact .inl (set_mem.2 (.inr rfl))
              · exact .inr (List.mem_append.2 (.inl h))
          · exact .inr (List.mem_append.2 (.inr hx))
        · have hd := hI.d
          have hfl : ((keysS (mapSet .str .bool es s true)).filter fun s => decide (s ∈ namesS r)).length = ((keysS es).filter fun s => decide (s ∈ namesS r)).length + ([s].filter fun s => decide (s ∈ namesS r)).length := by
            rw [hke, List.filter_append, List.length_append]
          rw [hfl]
          by_cases hnn : ndS r s = []
          · rw [hnn, List.append_nil]
            simp only [List.length_cons] at hd
            have : 1048576 * (1 + ((keysS es).filter fun s => decide (s ∈ namesS r)).length) ≤ 1048576 * (1 + (((keysS es).filter fun s => decide (s ∈ namesS r)).length + ([s].filter fun s => decide (s ∈ namesS r)).length)) := Nat.mul_le_mul_left _ (by omega)
            omega
          · have h6 : ([s].filter fun s => decide (s ∈ namesS r)).length = 1 := by
              rw [List.filter_cons_of_pos (by simpa using nd_name hnn)]
              rfl
            rw [h6, List.length_append]
            simp only [List.length_cons] at hd
            omega
theorem prog_j0 {r : RulesT} (hr : RS r) (w : TL) (hw : w.length ≤ 84934656) : tech_Closure.j0 w r [] = tech_Closure.j1 r w [] := by
  cases w with
  | nil => rw [tech_Closure.j0_eq, tech_Closure.j1_eq]; rfl
  | cons s w =>
    simp only [List.length_cons] at hw
    have e1 : List.take (Int.toNat (((s :: w).length : Int) - 1)) (List.drop 1 (s :: w)) = w := by
      rw [show Int.toNat (((s :: w).length : Int) - 1) = w.length by simp]
      simp
    have e2 : List.drop 1 (List.take (Int.toNat ((s :: w).length : Int)) (s :: w)) = w := by
      rw [Int.toNat_natCast, List.take_length]
      rfl
    rw [tech_Closure.j0_eq, tech_Closure.j1_eq, e1, e2, clone_t w (by unfold LF; omega), decide_eq_true (show ((s :: w).length : Int) > 0 by simp), cond_true, cond_true,
      decide_eq_true (show 1 + Int.toNat (((s :: w).length : Int) - 1) ≤ (s :: w).length by simp; omega)]
    rfl
theorem prog_closure {r : RulesT} (hr : RS r) (name : ByteArray) : ((needS r name).2 = false ∧ tech_Closure.f r name = some ([], 8)) ∨
    ((needS r name).2 = true ∧ ∃ L, tech_Closure.f r name = some (L, 0) ∧ Asc L ∧ ∀ x, x ∈ L ↔ Rch r (ndS r name) x) := by
  have hn := nd_len hr name
  rw [tech_Closure.f_eq, tneeds_eq r name hr.L, Option.bind_some]
  cases hk : (needS r name).2 with
  | false => exact .inl ⟨rfl, rfl⟩
  | true =>
    refine .inr ⟨rfl, ?_⟩
    rw [Bool.not_true, cond_false, show (needS r name).1 = ndS r name from rfl, prog_j0 hr _ (by omega)]
    exact prog_j1 hr hn _ (ndS r name) [] rfl ⟨SetOf.nil, by simp, fun x hx => .base hx, fun x hx => .inr hx, by simp, by simp; omega⟩
/-! ### the answer's side -/
def addS (r : RulesT) (acc : TL) (s : ByteArray) : TL := (ndS r s).foldl withT acc
def stepR (r : RulesT) (out : TL) : TL := out.foldl (addS r) out
/-- ascending, and nothing that cannot be reached -/
structure Ok (r : RulesT) (l out : TL) : Prop where
  asc : Asc out
  rch : ∀ x ∈ out, Rch r l x
theorem Ok.len {r : RulesT} (hr : RS r) {l out : TL} (hl : l.length ≤ 1048576) (h : Ok r l out) : out.length ≤ 84934656 := by
  have h1 := nodup_len h.asc.nodup (fun x hx => (h.rch x hx).mem)
  have h2 := all_len hr
  rw [List.length_append] at h1
  omega
theorem Ok.with {r : RulesT} {l out : TL} (h : Ok r l out) {s : ByteArray} (hs : Rch r l s) : Ok r l (withT out s) := ⟨withT_asc h.asc, fun x hx => by
  rcases withT_mem.1 hx with h1 | rfl
  · exact h.rch x h1
  · exact hs⟩
theorem Ok.fold {r : RulesT} {l : TL} : ∀ {ss out : TL}, Ok r l out → (∀ s ∈ ss, Rch r l s) → Ok r l (ss.foldl withT out)
  | [], out, h, _ => h
  | s :: ss, out, h, hs => Ok.fold (ss := ss) (out := withT out s) (h.with (hs s (by simp))) (fun x hx => hs x (by simp [hx]))
theorem Ok.steps {r : RulesT} {l : TL} : ∀ {ss out : TL}, Ok r l out → (∀ s ∈ ss, Rch r l s) → Ok r l (ss.foldl (addS r) out)
  | [], out, h, _ => h
  | s :: ss, out, h, hs => Ok.steps (ss := ss) (out := addS r out s) (h.fold fun x hx => .step (hs s (by simp)) hx) (fun x hx => hs x (by simp [hx]))
theorem steps_mem {r : RulesT} {x : ByteArray} : ∀ (ss out : TL), x ∈ ss.foldl (addS r) out ↔ x ∈ out ∨ ∃ s ∈ ss, x ∈ ndS r s
  | [], out => by simp
  | s :: ss, out => by
    rw [List.foldl_cons, steps_mem ss, addS, foldW_mem]
    constructor
    · rintro ((h | h) | ⟨s', h1, h2⟩)
      · exact .inl h
      · exact .inr ⟨s, by simp, h⟩
      · exact .inr ⟨s', by simp [h1], h2⟩
    · rintro (h | ⟨s', h1, h2⟩)
      · exact .inl (.inl h)
      · rcases List.mem_cons.1 h1 with rfl | h1
        · exact .inl (.inr h2)
        · exact .inr ⟨s', h1, h2⟩
section
variable {r : RulesT} (hr : RS r) {l : TL} (hl : l.length ≤ 1048576)
include hr hl
theorem ref_j7 (out : TL) (size : Int) (i : Int) (n : TL) (hn : n.length ≤ 1048576) : ∀ (m k : Nat) (more : TL), k + m = n.length → Ok r l more → (∀ x ∈ n, Rch r l x) → ref29_Closure.j7 out size more i n k r = ref29_Closure.j5 out size ((n.drop k).foldl withT more) (IntKind.i64.wrap (i + 1)) r := by
  intro m
  induction m with
  | zero =>
    intro k more hk ho hx
    rw [ref29_Closure.j7_eq, lt_false (by omega), cond_false, List.drop_of_length_le (by omega)]
    rfl
  | succ m ih =>
    intro k more hk ho hx
    have hlt : k < n.length := by omega
    have hml := ho.len hr hl
    rw [ref29_Closure.j7_eq, lt_true hlt, cond_true, idx_nat, List.getElem?_eq_getElem hlt, Option.bind_some, with_eq more _ (by omega), Option.bind_some, wr_succ hlt (by omega), ih (k + 1) _ (by omega) (ho.with (hx _ (List.getElem_mem hlt))) hx, List.drop_eq_getElem_cons hlt]
    rfl
theorem ref_j5 (out : TL) (ho : Ok r l out) : ∀ (m i : Nat) (more : TL), i + m = out.length → Ok r l more → ref29_Closure.j5 out out.length more i r = ref29_Closure.j3 ((out.drop i).foldl (addS r) more) out.length r := by
  have hol := ho.len hr hl
  intro m
  induction m with
  | zero =>
    intro i more hi hm
    rw [ref29_Closure.j5_eq, lt_false (by omega), cond_false, List.drop_of_length_le (by omega)]
    rfl
  | succ m ih =>
    intro i more hi hm
    have hlt : i < out.length := by omega
    have hs := ho.rch _ (List.getElem_mem hlt)
    have h7 := ref_j7 hr hl out out.length i (ndS r out[i]) (nd_len hr _) _ 0 more (Nat.zero_add _) hm (fun x hx => .step hs hx)
    rw [show ((0 : Nat) : Int) = 0 from rfl, List.drop_zero] at h7
    rw [ref29_Closure.j5_eq, lt_true hlt, cond_true, idx_nat, List.getElem?_eq_getElem hlt, Option.bind_some, rneeds_eq r _ hr.L, Option.bind_some, show (needS r out[i]).1 = ndS r out[i] from rfl, h7, wr_succ hlt (by omega), ih (i + 1) _ (by omega) (hm.fold fun x hx => .step hs hx), List.drop_eq_getElem_cons hlt]
    rfl
theorem ref_j3 : ∀ (t : Nat) (prev out : TL), ((l ++ allN r).length - prev.length) = t → Ok r l prev → Ok r l out → out = stepR r prev → (∀ x ∈ l, x ∈ out) →
    ∃ L, ref29_Closure.j3 out prev.length r = some (L, 0) ∧ Asc L ∧ ∀ x, x ∈ L ↔ Rch r l x := by
  intro t
  induction t using Nat.strongRecOn with
  | ind t ih =>
    intro prev out ht hp ho he hlm
    have hol := ho.len hr hl
    have hnl := nodup_len ho.asc.nodup (fun x hx => (ho.rch x hx).mem)
    have hsub : ∀ x ∈ prev, x ∈ out := fun x hx => by rw [he]; exact (steps_mem prev prev).2 (.inl hx)
    rw [ref29_Closure.j3_eq]
    rcases Nat.lt_or_ge prev.length out.length with h | h
    · rw [lt_true h, cond_true]
      have h5 := ref_j5 hr hl out ho out.length 0 out (by omega) ho
      rw [show ((0 : Nat) : Int) = 0 from rfl, List.drop_zero] at h5
      rw [h5]
      exact ih _ (by omega) out (stepR r out) rfl ho (ho.steps ho.rch) rfl (fun x hx => (steps_mem out out).2 (.inl (hlm x hx)))
    · rw [lt_false h, cond_false]
      have heq := nodup_eq hp.asc.nodup hsub h ho.asc.nodup
      refine ⟨out, rfl, ho.asc, fun x => ⟨ho.rch x, fun hx => ?_⟩⟩
      induction hx with
      | base h => exact hlm _ h
      | step hs h ih2 =>
        rw [he]
        exact (steps_mem prev prev).2 (.inr ⟨_, heq _ ih2, h⟩)
theorem ref_j1 : ∀ (m i : Nat) (out : TL), i + m = l.length → Ok r l out → ref29_Closure.j1 l out i r = ref29_Closure.j3 ((l.drop i).foldl withT out) (-1) r := by
  intro m
  induction m with
  | zero =>
    intro i out hi ho
    rw [ref29_Closure.j1_eq, lt_false (by omega), cond_false, List.drop_of_length_le (by omega)]
    rfl
  | succ m ih =>
    intro i out hi ho
    have hlt : i < l.length := by omega
    have hml := ho.len hr hl
    rw [ref29_Closure.j1_eq, lt_true hlt, cond_true, idx_nat, List.getElem?_eq_getElem hlt, Option.bind_some, with_eq out _ (by omega), Option.bind_some, wr_succ hlt (by omega), ih (i + 1) _ (by omega) (ho.with (.base (List.getElem_mem hlt))), List.drop_eq_getElem_cons hlt]
    rfl
theorem ref_j0 : ∃ L, ref29_Closure.j0 l 0 r [] = some (L, 0) ∧ Asc L ∧ ∀ x, x ∈ L ↔ Rch r l x := by
  have hnil : Ok r l [] := ⟨List.Pairwise.nil, by simp⟩
  cases hle : l with
  | nil =>
    subst hle
    refine ⟨[], ?_, List.Pairwise.nil, fun x => ⟨by simp, fun h => ?_⟩⟩
    · rw [ref29_Closure.j0_eq]
      show ref29_Closure.j2 (-1) r [] = _
      rw [ref29_Closure.j2_eq]
      show ref29_Closure.j4 0 0 r [] = _
      rw [ref29_Closure.j4_eq]
      show ref29_Closure.j2 0 r [] = _
      rw [ref29_Closure.j2_eq]
      rfl
    · exfalso
      induction h with
      | base h => simp at h
      | step _ _ ih => exact ih
  | cons s w =>
    rw [← hle]
    have hlt : 0 < l.length := by rw [hle]; simp
    have hOut := hnil.fold (ss := l) (fun s hs => .base hs)
    have hlen := hOut.len hr hl
    have e1 := ref_j1 hr hl (l.length - 1) 1 (withT [] l[0]) (by omega) (hnil.with (.base (List.getElem_mem hlt)))
    have e0 : ref29_Closure.j0 l 0 r [] = ref29_Closure.j3 (l.foldl withT []) (-1) r := by
      have hi : idx l 0 = some l[0] := by
        have := idx_nat l 0
        rw [show ((0 : Nat) : Int) = 0 from rfl] at this
        rw [this, List.getElem?_eq_getElem hlt]
      have hd : decide ((0 : Int) < (l.length : Int)) = true := decide_eq_true (by omega)
      rw [ref29_Closure.j0_eq, hd, cond_true, hi, Option.bind_some, with_eq [] _ (by decide), Option.bind_some]
      refine Eq.trans e1 ?_
      congr 1
      conv => rhs; rw [hle]
      subst hle
      rfl
    rw [e0, ref29_Closure.j3_eq, decide_eq_true (show (-1 : Int) < ((l.foldl withT []).length : Int) by omega), cond_true]
    have h5 := ref_j5 hr hl (l.foldl withT []) hOut (l.foldl withT []).length 0 (l.foldl withT []) (by omega) hOut
    rw [show ((0 : Nat) : Int) = 0 from rfl, List.drop_zero] at h5
    rw [h5]
    exact ref_j3 hr hl _ (l.foldl withT []) _ rfl hOut (hOut.steps hOut.rch) rfl (fun x hx => (steps_mem _ _).2 (.inl ((foldW_mem l []).2 (.inr hx))))
end
theorem ref_closure {r : RulesT} (hr : RS r) (name : ByteArray) : ((needS r name).2 = false ∧ ref29_Closure.f r name = some ([], 8)) ∨
    ((needS r name).2 = true ∧ ∃ L, ref29_Closure.f r name = some (L, 0) ∧ Asc L ∧ ∀ x, x ∈ L ↔ Rch r (ndS r name) x) := by
  rw [ref29_Closure.f_eq, rneeds_eq r name hr.L, Option.bind_some]
  cases hk : (needS r name).2 with
  | false => exact .inl ⟨rfl, rfl⟩
  | true => exact .inr ⟨rfl, ref_j0 hr (nd_len hr name)⟩
/-! ### the statement -/
theorem little2_eq (r : RulesT) : law29_little.f r = some (decide ((List.length (α := UnitTypeT) r.1 : Int) ≤ 40) && decide ((List.length (α := TechT) r.2.2 : Int) ≤ 40)) := by
  rw [law29_little.f_eq, c1]
theorem rs_of {r : RulesT} (h : FitsB 1048576 cRules r) (hF : RulesL r) (h1 : (List.length (α := UnitTypeT) r.1 : Int) ≤ 40) (h2 : (List.length (α := TechT) r.2.2 : Int) ≤ 40) : RS r := by
  refine ⟨hF, by omega, by omega, fun u hu => ?_, fun t ht => ?_⟩
  · have hu := h.1.2 u hu
    exact hu.2.2.2.2.2.2.2.2.2.2.2.2.2.2.2.2.1.1.1
  · have ht := h.2.2.2 t ht
    exact ht.2.1.1.1
theorem closures (r : RulesT) (name : ByteArray) (h : FitsB 1048576 cRules r) (hF : RulesL r) : law29_TechClosures.f r name = some true := by
  rw [law29_TechClosures.f_eq, little2_eq, Option.bind_some, alive]
  by_cases h1 : (List.length (α := UnitTypeT) r.1 : Int) ≤ 40
  · by_cases h2 : (List.length (α := TechT) r.2.2 : Int) ≤ 40
    · have hr := rs_of h hF h1 h2
      rw [decide_eq_true h1, decide_eq_true h2, Bool.and_self, Bool.not_true, cond_false]
      rcases prog_closure hr name with ⟨k1, e1⟩ | ⟨k1, L, e1, a1, m1⟩
      · rcases ref_closure hr name with ⟨_, e2⟩ | ⟨k2, _⟩
        · rw [e1, e2, Option.bind_some, Option.bind_some, same_self _ (by simp)]
          rfl
        · rw [k1] at k2; cases k2
      · rcases ref_closure hr name with ⟨k2, _⟩ | ⟨_, L2, e2, a2, m2⟩
        · rw [k1] at k2; cases k2
        · obtain rfl : L = L2 := asc_unique a1 a2 fun x => (m1 x).trans (m2 x).symm
          have hlen := Ok.len hr (nd_len hr name) ⟨a1, fun x hx => (m1 x).1 hx⟩
          rw [e1, e2, Option.bind_some, Option.bind_some, same_self L (by omega)]
          rfl
    · rw [decide_eq_false h2, Bool.and_false]; rfl
  · rw [decide_eq_false h1, Bool.false_and]; rfl
end Go.Proofs.Ytpcahneiinjdmaa

/- Rules are validated: it comes to something for all small rules. -/
set_option linter.unusedVariables false
set_option linter.unusedSimpArgs false
set_option maxHeartbeats 2000000
namespace Go.Proofs.Ytpcahneiinjdmaa
open Go Go.Sk

/-! ### coming to something -/
def Tot {α : Type} (o : Option α) : Prop := ∃ v, o = some v
theorem Tot.some {α : Type} (v : α) : Tot (some v) := ⟨v, rfl⟩
theorem Tot.cond {α : Type} {b : Bool} {x y : Option α} (hx : Tot x) (hy : Tot y) : Tot (bif b then x else y) := by cases b <;> assumption
theorem Tot.bind {α β : Type} {o : Option α} {k : α → Option β} (ho : Tot o) (hk : ∀ v, o = Option.some v → Tot (k v)) : Tot (o.bind k) := by
  obtain ⟨v, hv⟩ := ho
  rw [hv]
  exact hk v hv
theorem Tot.loop {β γ : Type} (n : Nat) (F : β → Int → Option γ) (hF : ∀ (b : β) (k : Nat), k < n → (∀ b', Tot (F b' ((k + 1 : Nat) : Int))) → Tot (F b k)) (hE : ∀ b, Tot (F b n)) (b : β) : Tot (F b 0) := by
  have key : ∀ m k : Nat, k + m = n → ∀ b, Tot (F b k) := by
    intro m
    induction m with
    | zero => intro k hk b; rw [show k = n by omega]; exact hE b
    | succ m ih => intro k hk b; exact hF b k (by omega) (ih (k + 1) (by omega))
  exact key n 0 (by omega) b
theorem Tot.loop1 {γ : Type} (n : Nat) (F : Int → Option γ) (hF : ∀ (k : Nat), k < n → Tot (F ((k + 1 : Nat) : Int)) → Tot (F k)) (hE : Tot (F n)) : Tot (F 0) :=
  Tot.loop n (fun (_ : Unit) i => F i) (fun _ k hk h => hF k hk (h ())) (fun _ => hE) ()
theorem idx_tot {α : Type} {l : List α} {k : Nat} (h : k < l.length) : idx l (k : Int) = some l[k] := by rw [idx_nat, List.getElem?_eq_getElem h]
abbrev Ln (n : Nat) : Prop := n ≤ 4000000000
/-! ### the helpers -/
theorem has9_eq (l : List ByteArray) (s : ByteArray) (hl : Ln l.length) : ref09_Has.f l s = some (hasT l s) := by
  rw [ref09_Has.f_eq, any_loop l (fun i => ref09_Has.j0 l s i) (fun e => decide (e = s)) true (some false) (fun k hk => ?hF) ?hE]
  · unfold hasT
    cases l.any (fun e => decide (e = s)) <;> rfl
  case hF =>
    rw [ref09_Has.j0_eq, lt_true hk, cond_true, idx_nat, List.getElem?_eq_getElem hk, Option.bind_some, wr_succ hk (by unfold Ln at hl; omega), toList_beq]
  case hE =>
    rw [ref09_Has.j0_eq, lt_false (Nat.le_refl _), cond_false]
def allT (l inn : TL) : Bool := !l.any fun e => !hasT inn e
theorem all9_eq (l inn : TL) (hl : Ln l.length) (hi : Ln inn.length) : ref09_all.f l inn = some (allT l inn) := by
  rw [ref09_all.f_eq, any_loop l (fun i => ref09_all.j0 l inn i) (fun e => !hasT inn e) false (some true) (fun k hk => ?hF) ?hE]
  · unfold allT
    cases l.any (fun e => !hasT inn e) <;> rfl
  case hF =>
    rw [ref09_all.j0_eq, lt_true hk, cond_true, idx_nat, List.getElem?_eq_getElem hk, Option.bind_some, has9_eq inn _ hi, Option.bind_some, wr_succ hk (by unfold Ln at hl; omega)]
  case hE =>
    rw [ref09_all.j0_eq, lt_false (Nat.le_refl _), cond_false]
theorem asc9_tot (l : TL) (hl : Ln l.length) : Tot (ref09_ascending.f l) := by
  rw [ref09_ascending.f_eq]
  have key : ∀ m k : Nat, k + m = l.length → 0 < k → Tot (ref09_ascending.j0 l k) := by
    intro m
    induction m with
    | zero => intro k hk h0; rw [ref09_ascending.j0_eq, lt_false (by omega), cond_false]; exact .some _
    | succ m ih =>
      intro k hk h0
      have hlt : k < l.length := by omega
      rw [ref09_ascending.j0_eq, lt_true hlt, cond_true, prev_idx l k hlt (by unfold Ln at hl; omega) h0, Option.bind_some, idx_tot hlt, Option.bind_some, wr_succ hlt (by unfold Ln at hl; omega)]
      exact .cond (.some _) (ih (k + 1) (by omega) (by omega))
  rcases Nat.lt_or_ge 1 l.length with h | h
  · exact key (l.length - 1) 1 (by omega) (by omega)
  · rw [ref09_ascending.j0_eq, decide_eq_false (show ¬ (1 : Int) < (l.length : Int) by omega), cond_false]
    exact .some _
theorem within_tot (n a b : Int) : Tot (ref09_within.f n a b) := by
  rw [ref09_within.f_eq]; exact .cond (.some _) (.some _)
theorem stat_tot (n : Int) : Tot (ref09_stat.f n) := by
  rw [ref09_stat.f_eq]; exact .bind (within_tot _ _ _) fun _ _ => .some _
theorem shaped_tot (u : UnitTypeT) : Tot (ref09_shaped.f u) := by
  rw [ref09_shaped.f_eq]
  refine .bind (within_tot _ _ _) fun _ _ => .cond (.some _) (.bind (within_tot _ _ _) fun _ _ => .cond (.some _) (.bind (stat_tot _) fun _ _ => .cond (.some _) (.bind (stat_tot _) fun _ _ => .cond (.some _) (.bind (stat_tot _) fun _ _ => .cond (.some _) (.bind (stat_tot _) fun _ _ => .cond (.some _) ?_)))))
  refine .cond ?_ ?_
  · exact .cond (.bind (within_tot _ _ _) fun _ _ => .cond (.bind (within_tot _ _ _) fun _ _ => .cond (.cond (.cond (.some _) (.some _)) (.some _)) (.some _)) (.some _)) (.some _)
  · exact .bind (within_tot _ _ _) fun _ _ => .cond (.cond (.cond (.bind (within_tot _ _ _) fun _ _ => .cond (.bind (within_tot _ _ _) fun _ _ => .cond (.bind (stat_tot _) fun _ _ => .cond (.some _) (.some _)) (.some _)) (.some _)) (.some _)) (.some _)) (.some _)
/-- small rules, all their lists short -/
structure RT2 (r : RulesT) : Prop extends RS r where
  wl : List.length (α := WeaponT) r.2.1 ≤ 1048576
  ut : ∀ u ∈ (r.1 : List UnitTypeT), (u.2.2.2.2.2.2.2.2.2.2.2.2.2.2.2.2.2.1 : TL).length ≤ 1048576
  ur : ∀ u ∈ (r.1 : List UnitTypeT), (u.2.2.2.2.2.2.2.2.2.2.2.2.2.2.2.2.2.2 : TL).length ≤ 1048576
section
variable {r : RulesT} (h : RT2 r)
include h
theorem limits_tot : Tot (ref09_limits.f r) := by
  have h1 := h.ul
  have h2 := h.tl
  rw [ref09_limits.f_eq]
  refine .cond (.some _) (.cond (.some _) (.cond (.some _) ?_))
  refine Tot.loop1 (List.length (α := UnitTypeT) r.1) (fun i => ref09_limits.j0 i r) (fun k hk ih => ?_) ?_
  · show Tot (ref09_limits.j0 k r)
    rw [ref09_limits.j0_eq, lt_true hk, cond_true, idx_tot hk, Option.bind_some, wr_succ hk (by omega)]
    exact .cond (.some _) (.cond (.some _) (.cond (.some _) ih))
  · show Tot (ref09_limits.j0 (List.length (α := UnitTypeT) r.1) r)
    rw [ref09_limits.j0_eq, lt_false (Nat.le_refl _), cond_false]
    refine Tot.loop1 (List.length (α := TechT) r.2.2) (fun i => ref09_limits.j1 i r) (fun k hk ih => ?_) ?_
    · show Tot (ref09_limits.j1 k r)
      rw [ref09_limits.j1_eq, lt_true hk, cond_true, idx_tot hk, Option.bind_some, wr_succ hk (by omega)]
      exact .cond (.some _) ih
    · show Tot (ref09_limits.j1 (List.length (α := TechT) r.2.2) r)
      rw [ref09_limits.j1_eq, lt_false (Nat.le_refl _), cond_false]
      exact .some _
theorem numbers_tot : Tot (ref09_numbers.f r) := by
  have h1 := h.ul
  have h2 := h.tl
  have h3 := h.wl
  rw [ref09_numbers.f_eq]
  refine Tot.loop (List.length (α := UnitTypeT) r.1) (fun ok i => ref09_numbers.j0 ok i r) (fun ok k hk ih => ?_) (fun ok => ?_) true
  · show Tot (ref09_numbers.j0 ok k r)
    rw [ref09_numbers.j0_eq, lt_true hk, cond_true, idx_tot hk, Option.bind_some, wr_succ hk (by omega)]
    exact .cond (.bind (shaped_tot _) fun b _ => ih b) (ih false)
  · show Tot (ref09_numbers.j0 ok (List.length (α := UnitTypeT) r.1) r)
    rw [ref09_numbers.j0_eq, lt_false (Nat.le_refl _), cond_false]
    refine Tot.loop (List.length (α := WeaponT) r.2.1) (fun ok i => ref09_numbers.j1 ok i r) (fun ok k hk ih => ?_) (fun ok => ?_) ok
    · show Tot (ref09_numbers.j1 ok k r)
      rw [ref09_numbers.j1_eq, lt_true hk, cond_true, idx_tot hk, Option.bind_some, wr_succ hk (by omega)]
      exact .cond (.bind (within_tot _ _ _) fun _ _ => .cond (.bind (stat_tot _) fun _ _ => .cond (.bind (stat_tot _) fun _ _ => .cond (.bind (within_tot _ _ _) fun _ _ => .cond (.bind (within_tot _ _ _) fun b _ => ih b) (ih false)) (ih false)) (ih false)) (ih false)) (ih false)
    · show Tot (ref09_numbers.j1 ok (List.length (α := WeaponT) r.2.1) r)
      rw [ref09_numbers.j1_eq, lt_false (Nat.le_refl _), cond_false]
      refine Tot.loop (List.length (α := TechT) r.2.2) (fun ok i => ref09_numbers.j2 ok i r) (fun ok k hk ih => ?_) (fun ok => ?_) ok
      · show Tot (ref09_numbers.j2 ok k r)
        rw [ref09_numbers.j2_eq, lt_true hk, cond_true, idx_tot hk, Option.bind_some, wr_succ hk (by omega)]
        exact .cond (.bind (stat_tot _) fun _ _ => .cond (.bind (stat_tot _) fun _ _ => .cond (.bind (stat_tot _) fun _ _ => .cond (.bind (stat_tot _) fun _ _ => .cond (.bind (within_tot _ _ _) fun b _ => ih b) (ih false)) (ih false)) (ih false)) (ih false)) (ih false)
      · show Tot (ref09_numbers.j2 ok (List.length (α := TechT) r.2.2) r)
        rw [ref09_numbers.j2_eq, lt_false (Nat.le_refl _), cond_false]
        exact .some _
theorem units9 : ref09_Units.f r = some ((r.1 : List UnitTypeT).map (·.1)) := by
  have h1 := h.ul
  have key : ∀ (m k : Nat) (acc : TL), k + m = List.length (α := UnitTypeT) r.1 → acc.length = k → ref09_Units.j0 k r acc = some (acc ++ (List.drop (α := UnitTypeT) k r.1).map (·.1)) := by
    intro m
    induction m with
    | zero => intro k acc hk ha; rw [ref09_Units.j0_eq, lt_false (by omega), cond_false, List.drop_of_length_le (by omega)]; simp
    | succ m ih =>
      intro k acc hk ha
      have hlt : k < List.length (α := UnitTypeT) r.1 := by omega
      rw [ref09_Units.j0_eq, lt_true hlt, cond_true, idx_tot hlt, Option.bind_some, cond_dec, List.length_singleton, if_pos (by omega), wr_succ hlt (by omega), ih (k + 1) _ (by omega) (by simp [ha]), List.drop_eq_getElem_cons hlt, List.map_cons, List.append_assoc]
      rfl
  have := key _ 0 [] (Nat.zero_add _) rfl
  rw [show ((0 : Nat) : Int) = 0 from rfl] at this
  rw [ref09_Units.f_eq, this]
  simp
theorem weapons9 : ref09_Weapons.f r = some ((r.2.1 : List WeaponT).map (·.1)) := by
  have h1 := h.wl
  have key : ∀ (m k : Nat) (acc : TL), k + m = List.length (α := WeaponT) r.2.1 → acc.length = k → ref09_Weapons.j0 k r acc = some (acc ++ (List.drop (α := WeaponT) k r.2.1).map (·.1)) := by
    intro m
    induction m with
    | zero => intro k acc hk ha; rw [ref09_Weapons.j0_eq, lt_false (by omega), cond_false, List.drop_of_length_le (by omega)]; simp
    | succ m ih =>
      intro k acc hk ha
      have hlt : k < List.length (α := WeaponT) r.2.1 := by omega
      rw [ref09_Weapons.j0_eq, lt_true hlt, cond_true, idx_tot hlt, Option.bind_some, cond_dec, List.length_singleton, if_pos (by omega), wr_succ hlt (by omega), ih (k + 1) _ (by omega) (by simp [ha]), List.drop_eq_getElem_cons hlt, List.map_cons, List.append_assoc]
      rfl
  have := key _ 0 [] (Nat.zero_add _) rfl
  rw [show ((0 : Nat) : Int) = 0 from rfl] at this
  rw [ref09_Weapons.f_eq, this]
  simp
theorem techs9 : ref09_Techs.f r = some ((r.2.2 : List TechT).map (·.1)) := by
  have h1 := h.tl
  have key : ∀ (m k : Nat) (acc : TL), k + m = List.length (α := TechT) r.2.2 → acc.length = k → ref09_Techs.j0 k r acc = some (acc ++ (List.drop (α := TechT) k r.2.2).map (·.1)) := by
    intro m
    induction m with
    | zero => intro k acc hk ha; rw [ref09_Techs.j0_eq, lt_false (by omega), cond_false, List.drop_of_length_le (by omega)]; simp
    | succ m ih =>
      intro k acc hk ha
      have hlt : k < List.length (α := TechT) r.2.2 := by omega
      rw [ref09_Techs.j0_eq, lt_true hlt, cond_true, idx_tot hlt, Option.bind_some, cond_dec, List.length_singleton, if_pos (by omega), wr_succ hlt (by omega), ih (k + 1) _ (by omega) (by simp [ha]), List.drop_eq_getElem_cons hlt, List.map_cons, List.append_assoc]
      rfl
  have := key _ 0 [] (Nat.zero_add _) rfl
  rw [show ((0 : Nat) : Int) = 0 from rfl] at this
  rw [ref09_Techs.f_eq, this]
  simp
theorem ordered_tot : Tot (ref09_ordered.f r) := by
  have h1 := h.ul
  have h2 := h.tl
  have h3 := h.wl
  have loop : ∀ ok, Tot (ref09_ordered.j0 ok 0 r) := by
    intro ok
    refine Tot.loop (List.length (α := UnitTypeT) r.1) (fun ok i => ref09_ordered.j0 ok i r) (fun ok k hk ih => ?_) (fun ok => ?_) ok
    · show Tot (ref09_ordered.j0 ok k r)
      have q1 := h.un _ (List.getElem_mem hk)
      have q2 := h.ut _ (List.getElem_mem hk)
      have q3 := h.ur _ (List.getElem_mem hk)
      rw [ref09_ordered.j0_eq, lt_true hk, cond_true, idx_tot hk, Option.bind_some, wr_succ hk (by omega)]
      exact .cond (.bind (asc9_tot _ (Nat.le_trans q1 (by decide))) fun _ _ => .cond (.bind (asc9_tot _ (Nat.le_trans q2 (by decide))) fun _ _ => .cond (.bind (asc9_tot _ (Nat.le_trans q3 (by decide))) fun b _ => ih b) (ih false)) (ih false)) (ih false)
    · show Tot (ref09_ordered.j0 ok (List.length (α := UnitTypeT) r.1) r)
      rw [ref09_ordered.j0_eq, lt_false (Nat.le_refl _), cond_false]
      refine Tot.loop (List.length (α := TechT) r.2.2) (fun ok i => ref09_ordered.j1 ok i r) (fun ok k hk ih => ?_) (fun ok => ?_) ok
      · show Tot (ref09_ordered.j1 ok k r)
        have q1 := h.tn _ (List.getElem_mem hk)
        rw [ref09_ordered.j1_eq, lt_true hk, cond_true, idx_tot hk, Option.bind_some, wr_succ hk (by omega)]
        exact .cond (.bind (asc9_tot _ (Nat.le_trans q1 (by decide))) fun b _ => ih b) (ih false)
      · show Tot (ref09_ordered.j1 ok (List.length (α := TechT) r.2.2) r)
        rw [ref09_ordered.j1_eq, lt_false (Nat.le_refl _), cond_false]
        exact .some _
  rw [ref09_ordered.f_eq, units9 h, weapons9 h, techs9 h]
  refine .bind (.some _) fun v hv => .bind (asc9_tot _ ?_) fun _ _ => .cond (.bind (.some _) fun w hw => .bind (asc9_tot _ ?_) fun _ _ => .cond (.bind (.some _) fun x hx => .bind (asc9_tot _ ?_) fun b _ => loop b) (loop false)) (loop false)
  · cases hv; rw [List.length_map]; unfold Ln; omega
  · cases hw; rw [List.length_map]; unfold Ln; omega
  · cases hx; rw [List.length_map]; unfold Ln; omega
omit h in
theorem name9_tot (s : ByteArray) : Tot (ref09_Name.f s) := by
  rw [ref09_Name.f_eq]
  by_cases h0 : s.size = 0
  · rw [decide_eq_true (show (s.size : Int) < 1 by omega), cond_true]; exact .some _
  rw [decide_eq_false (show ¬ (s.size : Int) < 1 by omega), cond_false]
  by_cases h12 : (s.size : Int) > 12
  · rw [decide_eq_true h12, cond_true]; exact .some _
  rw [decide_eq_false h12, cond_false]
  have hb := byteAt_nat s 0 (by omega)
  rw [show ((0 : Nat) : Int) = 0 from rfl] at hb
  rw [hb]
  refine .bind (.some _) fun _ _ => .cond (.some _) (.bind (.some _) fun _ _ => .cond (.some _) ?_)
  refine Tot.loop1 s.size (fun i => ref09_Name.j0 s i) (fun k hk ih => ?_) ?_
  · show Tot (ref09_Name.j0 s k)
    rw [ref09_Name.j0_eq, lt_true hk, cond_true, byteAt_nat s k hk, Option.bind_some, wr_succ hk (by omega)]
    exact .cond (.cond (.cond (.cond (.cond (.some _) ih) ih) (.cond (.some _) ih)) ih) (.cond (.cond (.cond (.some _) ih) ih) (.cond (.some _) ih))
  · show Tot (ref09_Name.j0 s s.size)
    rw [ref09_Name.j0_eq, lt_false (Nat.le_refl _), cond_false]
    exact .some _
theorem named_tot : Tot (ref09_named.f r) := by
  have h1 := h.ul
  have h2 := h.tl
  have h3 := h.wl
  rw [ref09_named.f_eq, units9 h, Option.bind_some, weapons9 h, Option.bind_some, cond_dec, if_pos (by rw [List.length_map, List.length_map]; omega), techs9 h, Option.bind_some, cond_dec, if_pos (by rw [List.length_append, List.length_map, List.length_map, List.length_map]; omega)]
  generalize hl : ((r.1 : List UnitTypeT).map (·.1) ++ (r.2.1 : List WeaponT).map (·.1) ++ (r.2.2 : List TechT).map (·.1)) = l
  have hln : l.length ≤ 2000000 := by rw [← hl]; simp only [List.length_append, List.length_map]; omega
  refine Tot.loop1 l.length (fun i => ref09_named.j0 i l) (fun k hk ih => ?_) ?_
  · show Tot (ref09_named.j0 k l)
    rw [ref09_named.j0_eq, lt_true hk, cond_true, decide_eq_true (show (0 : Int) ≤ (k : Int) by omega), Bool.and_true, cond_true, Int.toNat_natCast, List.getElem?_eq_getElem hk, Option.bind_some, wr_succ hk (by omega)]
    exact .bind (name9_tot _) fun _ _ => .cond (.some _) ih
  · show Tot (ref09_named.j0 l.length l)
    rw [ref09_named.j0_eq, lt_false (Nat.le_refl _), cond_false]
    exact .some _
theorem needed_tot (l : TL) (hl : Ln l.length) : Tot (ref09_needed.f r l) := by
  rw [ref09_needed.f_eq]
  refine Tot.loop1 l.length (fun i => ref09_needed.j0 l i r) (fun k hk ih => ?_) ?_
  · show Tot (ref09_needed.j0 l k r)
    rw [ref09_needed.j0_eq, lt_true hk, cond_true, idx_tot hk, Option.bind_some, runit_eq r _ h.L, Option.bind_some, wr_succ hk (by unfold Ln at hl; omega)]
    exact .cond (.cond (.some _) ih) ih
  · show Tot (ref09_needed.j0 l l.length r)
    rw [ref09_needed.j0_eq, lt_false (Nat.le_refl _), cond_false]
    exact .some _
theorem typed_tot : Tot (ref09_typed.f r) := by
  have h1 := h.ul
  have h2 := h.tl
  rw [ref09_typed.f_eq]
  refine Tot.loop1 (List.length (α := UnitTypeT) r.1) (fun i => ref09_typed.j0 i r) (fun k hk ih => ?_) ?_
  · show Tot (ref09_typed.j0 k r)
    have q1 := h.un _ (List.getElem_mem hk)
    have q2 := h.ut _ (List.getElem_mem hk)
    rw [ref09_typed.j0_eq, lt_true hk, cond_true, idx_tot hk, Option.bind_some]
    generalize (show List UnitTypeT from r.1)[k] = u at q1 q2
    have inner : Tot (ref09_typed.j1 k 0 r u) := by
      refine Tot.loop1 (List.length (α := ByteArray) u.2.2.2.2.2.2.2.2.2.2.2.2.2.2.2.2.2.1) (fun i => ref09_typed.j1 k i r u) (fun j hj ih2 => ?_) ?_
      · show Tot (ref09_typed.j1 k j r u)
        rw [ref09_typed.j1_eq, lt_true hj, cond_true, idx_tot hj, Option.bind_some, runit_eq r _ h.L, Option.bind_some, wr_succ hj (by omega)]
        exact .cond (.some _) ih2
      · show Tot (ref09_typed.j1 k (List.length (α := ByteArray) u.2.2.2.2.2.2.2.2.2.2.2.2.2.2.2.2.2.1) r u)
        rw [ref09_typed.j1_eq, lt_false (Nat.le_refl _), cond_false, wr_succ hk (by omega)]
        exact ih
    exact .bind (needed_tot h _ (Nat.le_trans q1 (by decide))) fun _ _ => .cond (.some _) (.cond (.cond (.some _) inner) inner)
  · show Tot (ref09_typed.j0 (List.length (α := UnitTypeT) r.1) r)
    rw [ref09_typed.j0_eq, lt_false (Nat.le_refl _), cond_false]
    refine Tot.loop1 (List.length (α := TechT) r.2.2) (fun i => ref09_typed.j2 i r) (fun k hk ih => ?_) ?_
    · show Tot (ref09_typed.j2 k r)
      have q1 := h.tn _ (List.getElem_mem hk)
      rw [ref09_typed.j2_eq, lt_true hk, cond_true, idx_tot hk, Option.bind_some, wr_succ hk (by omega)]
      exact .bind (needed_tot h _ (by unfold Ln; omega)) fun _ _ => .cond (.some _) ih
    · show Tot (ref09_typed.j2 (List.length (α := TechT) r.2.2) r)
      rw [ref09_typed.j2_eq, lt_false (Nat.le_refl _), cond_false]
      exact .some _
omit h in
theorem has9_tot (l : TL) (s : ByteArray) (hl : Ln l.length) : Tot (ref09_Has.f l s) := ⟨_, has9_eq l s hl⟩
omit h in
theorem all9_tot (l inn : TL) (hl : Ln l.length) (hi : Ln inn.length) : Tot (ref09_all.f l inn) := ⟨_, all9_eq l inn hl hi⟩
theorem found_tot : Tot (ref09_found.f r) := by
  have h1 := h.ul
  have h2 := h.tl
  have h3 := h.wl
  rw [ref09_found.f_eq, units9 h, Option.bind_some, weapons9 h, Option.bind_some, techs9 h, Option.bind_some, cond_dec, if_pos (by rw [List.length_map]; omega), cond_dec, if_pos (by rw [List.nil_append, List.length_map, List.length_map]; omega)]
  generalize hu : (r.1 : List UnitTypeT).map (·.1) = us
  generalize hw : (r.2.1 : List WeaponT).map (·.1) = ws
  generalize ht : (r.2.2 : List TechT).map (·.1) = ts
  have lu : us.length ≤ 40 := by rw [← hu, List.length_map]; exact h1
  have lw : ws.length ≤ 1048576 := by rw [← hw, List.length_map]; exact h3
  have lt : ts.length ≤ 40 := by rw [← ht, List.length_map]; exact h2
  have lb : ([] ++ us ++ ts).length ≤ 80 := by simp; omega
  generalize ([] ++ us ++ ts) = both at lb
  refine Tot.loop1 (List.length (α := UnitTypeT) r.1) (fun i => ref09_found.j0 i r us ws ts both) (fun k hk ih => ?_) ?_
  · show Tot (ref09_found.j0 k r us ws ts both)
    have q1 := h.un _ (List.getElem_mem hk)
    have q2 := h.ut _ (List.getElem_mem hk)
    have q3 := h.ur _ (List.getElem_mem hk)
    rw [ref09_found.j0_eq, lt_true hk, cond_true, idx_tot hk, Option.bind_some, wr_succ hk (by omega)]
    exact .cond (.bind (has9_tot _ _ (by unfold Ln; omega)) fun _ _ => .cond (.some _) (.bind (all9_tot _ _ (Nat.le_trans q1 (by decide)) (by unfold Ln; omega)) fun _ _ => .cond (.some _) (.bind (all9_tot _ _ (Nat.le_trans q2 (by decide)) (by unfold Ln; omega)) fun _ _ => .cond (.some _) (.bind (all9_tot _ _ (Nat.le_trans q3 (by decide)) (by unfold Ln; omega)) fun _ _ => .cond (.some _) ih))))
      (.bind (all9_tot _ _ (Nat.le_trans q1 (by decide)) (by unfold Ln; omega)) fun _ _ => .cond (.some _) (.bind (all9_tot _ _ (Nat.le_trans q2 (by decide)) (by unfold Ln; omega)) fun _ _ => .cond (.some _) (.bind (all9_tot _ _ (Nat.le_trans q3 (by decide)) (by unfold Ln; omega)) fun _ _ => .cond (.some _) ih)))
  · show Tot (ref09_found.j0 (List.length (α := UnitTypeT) r.1) r us ws ts both)
    rw [ref09_found.j0_eq, lt_false (Nat.le_refl _), cond_false]
    refine Tot.loop1 (List.length (α := TechT) r.2.2) (fun i => ref09_found.j1 i r us both) (fun k hk ih => ?_) ?_
    · show Tot (ref09_found.j1 k r us both)
      have q1 := h.tn _ (List.getElem_mem hk)
      rw [ref09_found.j1_eq, lt_true hk, cond_true, idx_tot hk, Option.bind_some, wr_succ hk (by omega)]
      exact .bind (all9_tot _ _ (by unfold Ln; omega) (by unfold Ln; omega)) fun _ _ => .cond (.some _) (.bind (.some _) fun _ _ => .bind (has9_tot _ _ (by unfold Ln; omega)) fun _ _ => .cond (.some _) ih)
    · show Tot (ref09_found.j1 (List.length (α := TechT) r.2.2) r us both)
      rw [ref09_found.j1_eq, lt_false (Nat.le_refl _), cond_false]
      exact .some _
end
end Go.Proofs.Ytpcahneiinjdmaa

/- The order of valid rules; a closure is closed. -/
set_option linter.unusedVariables false
set_option linter.unusedSimpArgs false
set_option maxHeartbeats 2000000
namespace Go.Proofs.Ytpcahneiinjdmaa
open Go Go.Sk

theorem needs9_eq {r : RulesT} (h : RulesL r) (s : ByteArray) : ref09_Needs.f r s = some (ndS r s) := by
  rw [ref09_Needs.f_eq, runit_eq r s h, Option.bind_some, rtech_eq r s h, Option.bind_some]
  unfold ndS needS
  cases (findU r s).2 <;> rfl
/-- names in an order: each once, each behind what it needs -/
structure Seq (r : RulesT) (out : TL) : Prop where
  nd : out.Nodup
  sub : ∀ x ∈ out, x ∈ namesS r
  ord : ∀ (j : Nat) s, out[j]? = some s → ∀ x ∈ ndS r s, x ∈ out.take j
def candS (r : RulesT) (out : TL) (s : ByteArray) : Prop := s ∈ namesS r ∧ s ∉ out ∧ ∀ x ∈ ndS r s, x ∈ out
theorem allT_iff {l inn : TL} : allT l inn = true ↔ ∀ x ∈ l, x ∈ inn := by
  unfold allT
  rw [Bool.not_eq_true', List.any_eq_false]
  constructor
  · intro h x hx
    have := h x hx
    simp only [Bool.not_eq_true', Bool.not_eq_false] at this
    exact hasT_iff.1 (by simpa using this)
  · intro h x hx
    rw [hasT_iff.2 (h x hx)]
    simp
theorem Seq.len {r : RulesT} (h : RT2 r) {out : TL} (hs : Seq r out) : out.length ≤ (namesS r).length := nodup_len hs.nd hs.sub
theorem Seq.add {r : RulesT} {out : TL} (hs : Seq r out) {s : ByteArray} (hc : candS r out s) : Seq r (out ++ [s]) := by
  obtain ⟨h1, h2, h3⟩ := hc
  refine ⟨?_, fun x hx => ?_, fun j t hj x hx => ?_⟩
  · rw [List.nodup_append]
    exact ⟨hs.nd, by simp, fun a ha b hb e => h2 (by simp at hb; subst hb; subst e; exact ha)⟩
  · rcases List.mem_append.1 hx with hx | hx
    · exact hs.sub x hx
    · simp at hx; subst hx; exact h1
  · rcases Nat.lt_or_ge j out.length with hlt | hge
    · rw [List.getElem?_append_left hlt] at hj
      rw [List.take_append_of_le_length (by omega)]
      exact hs.ord j t hj x hx
    · rw [List.getElem?_append_right hge] at hj
      have hj0 : j = out.length := by
        have := (List.getElem?_eq_some_iff.1 hj).1
        simp at this
        omega
      subst hj0
      simp at hj
      subst hj
      rw [List.take_append_of_le_length (Nat.le_refl _), List.take_length]
      exact h3 x hx
section
variable {r : RulesT} (h : RT2 r)
include h
theorem seq_j1 (out : TL) (hs : Seq r out) : ∀ (m i : Nat) (best : ByteArray), i + m = (namesS r).length → (best = ⟨#[]⟩ ∨ candS r out best) →
    ∃ b', (b' = ⟨#[]⟩ ∨ candS r out b') ∧ ref09_sequence.j1 best i r (namesS r) out = ref09_sequence.j1 b' (namesS r).length r (namesS r) out := by
  have hn := names_len h.toRS
  have ho := Seq.len h hs
  intro m
  induction m with
  | zero =>
    intro i best hi hb
    obtain rfl : i = (namesS r).length := by omega
    exact ⟨best, hb, rfl⟩
  | succ m ih =>
    intro i best hi hb
    have hlt : i < (namesS r).length := by omega
    have hmem : (namesS r)[i] ∈ namesS r := List.getElem_mem hlt
    have hstep : ref09_sequence.j1 best i r (namesS r) out = (bif !hasT out (namesS r)[i] then (bif allT (ndS r (namesS r)[i]) out then (bif ByteArray.toList best == ByteArray.toList { data := #[] } then ref09_sequence.j1 (namesS r)[i] ((i + 1 : Nat) : Int) r (namesS r) out else (bif Go.Op.bytesLess (ByteArray.toList (namesS r)[i]) (ByteArray.toList best) then ref09_sequence.j1 (namesS r)[i] ((i + 1 : Nat) : Int) r (namesS r) out else ref09_sequence.j1 best ((i + 1 : Nat) : Int) r (namesS r) out)) else ref09_sequence.j1 best ((i + 1 : Nat) : Int) r (namesS r) out) else ref09_sequence.j1 best ((i + 1 : Nat) : Int) r (namesS r) out) := by
      rw [ref09_sequence.j1_eq, lt_true hlt, cond_true]
      simp only [decide_eq_true (show (0 : Int) ≤ (i : Int) by omega), Bool.and_true, cond_true, Int.toNat_natCast, List.getElem?_eq_getElem hlt, Option.bind_some, has9_eq out _ (by unfold Ln; omega), needs9_eq h.L, all9_eq (ndS r (namesS r)[i]) out (Nat.le_trans (nd_len h.toRS _) (by decide)) (by unfold Ln; omega), wr_succ hlt (show (namesS r).length ≤ 9223372036854775807 by omega)]
    have hcand : hasT out (namesS r)[i] = false → allT (ndS r (namesS r)[i]) out = true → candS r out (namesS r)[i] := fun h1 h2 => by
      refine ⟨hmem, ?_, allT_iff.1 h2⟩
      intro hx
      rw [hasT_iff.2 hx] at h1
      cases h1
    rw [hstep]
    cases h1 : hasT out (namesS r)[i] with
    | true => exact ih (i + 1) best (by omega) hb
    | false =>
      cases h2 : allT (ndS r (namesS r)[i]) out with
      | false => exact ih (i + 1) best (by omega) hb
      | true =>
        have hc := hcand h1 h2
        cases ByteArray.toList best == ByteArray.toList { data := #[] } with
        | true => exact ih (i + 1) _ (by omega) (.inr hc)
        | false =>
          cases Go.Op.bytesLess (ByteArray.toList (namesS r)[i]) (ByteArray.toList best) with
          | true => exact ih (i + 1) _ (by omega) (.inr hc)
          | false => exact ih (i + 1) best (by omega) hb
theorem seq_j0 : ∀ (t : Nat) (out : TL), (namesS r).length - out.length = t → Seq r out → ∃ L, ref09_sequence.j0 r (namesS r) out = some L ∧ Seq r L := by
  have hn := names_len h.toRS
  intro t
  induction t using Nat.strongRecOn with
  | ind t ih =>
    intro out ht hs
    have ho := Seq.len h hs
    obtain ⟨b', hb, e⟩ := seq_j1 h out hs (namesS r).length 0 ⟨#[]⟩ (by omega) (.inl rfl)
    rw [show ((0 : Nat) : Int) = 0 from rfl] at e
    rw [ref09_sequence.j0_eq, e, ref09_sequence.j1_eq, lt_false (Nat.le_refl _), cond_false, empty_iff]
    by_cases h0 : b'.size = 0
    · rw [decide_eq_true h0, cond_true]
      exact ⟨out, rfl, hs⟩
    · rw [decide_eq_false h0, cond_false]
      have hc : candS r out b' := hb.resolve_left fun e => h0 (by rw [e]; rfl)
      have hs' := hs.add hc
      have ho' := Seq.len h hs'
      rw [List.length_append, List.length_singleton] at ho'
      rw [cond_dec, List.length_singleton, if_pos (by omega)]
      exact ih _ (by rw [List.length_append, List.length_singleton]; omega) (out ++ [b']) rfl hs'
theorem sequence_eq : ∃ L, ref09_sequence.f r = some L ∧ Seq r L := by
  have h1 := h.ul
  have h2 := h.tl
  rw [ref09_sequence.f_eq, units9 h, Option.bind_some, techs9 h, Option.bind_some, cond_dec, if_pos (by rw [List.length_map, List.length_map]; omega)]
  exact seq_j0 h _ [] rfl ⟨by simp, by simp, fun j s hj => by simp at hj⟩
omit h in
/-- valid rules: no name needs itself -/
theorem no_cycle {out : TL} (hs : Seq r out) (hlen : (namesS r).length ≤ out.length) {name : ByteArray} (hname : name ∈ namesS r) : ¬ Rch r (ndS r name) name := by
  have hin : name ∈ out := by
    refine Classical.byContradiction fun hn => ?_
    have h1 := nodup_len (l := name :: out) (m := namesS r) (List.nodup_cons.2 ⟨hn, hs.nd⟩) (fun y hy => by
      rcases List.mem_cons.1 hy with rfl | hy
      · exact hname
      · exact hs.sub y hy)
    simp only [List.length_cons] at h1
    omega
  obtain ⟨j0, hj0⟩ := List.getElem?_of_mem hin
  have key : ∀ x, Rch r (ndS r name) x → x ∈ out.take j0 := by
    intro x hx
    induction hx with
    | base h => exact hs.ord j0 name hj0 _ h
    | step _ h ih =>
      obtain ⟨j, hj⟩ := List.getElem?_of_mem ih
      rw [List.getElem?_take] at hj
      split at hj
      · rename_i hlt
        have := hs.ord j _ hj _ h
        have e : out.take j = (out.take j0).take j := by rw [List.take_take, Nat.min_eq_left (by omega)]
        rw [e] at this
        exact List.mem_of_mem_take this
      · cases hj
  intro hc
  obtain ⟨j, hj⟩ := List.getElem?_of_mem (key name hc)
  rw [List.getElem?_take] at hj
  split at hj
  · rename_i hlt
    obtain ⟨a1, a2⟩ := List.getElem?_eq_some_iff.1 hj
    obtain ⟨b1, b2⟩ := List.getElem?_eq_some_iff.1 hj0
    exact List.pairwise_iff_getElem.1 hs.nd j j0 a1 b1 hlt (by rw [a2, b2])
  · cases hj
theorem validate_eq : ∃ v, ref09_Validate.f r = some v ∧ (v = 0 → ∀ name ∈ namesS r, ¬ Rch r (ndS r name) name) := by
  have h1 := h.ul
  have h2 := h.tl
  obtain ⟨L, e, hs⟩ := sequence_eq h
  have hj0 : ∀ ts : TL, Ln ts.length → ∃ v, ref09_Validate.j0 0 r ts = some v ∧ (v = 0 → ∀ name ∈ namesS r, ¬ Rch r (ndS r name) name) := by
    intro ts hts
    have key : ∀ m k : Nat, k + m = List.length (α := UnitTypeT) r.1 → ∃ v, ref09_Validate.j0 k r ts = some v ∧ (v = 0 → ∀ name ∈ namesS r, ¬ Rch r (ndS r name) name) := by
      intro m
      induction m with
      | zero =>
        intro k hk
        obtain ⟨b1, e1⟩ := numbers_tot h
        obtain ⟨b2, e2⟩ := found_tot h
        obtain ⟨b3, e3⟩ := typed_tot h
        rw [ref09_Validate.j0_eq, lt_false (by omega), cond_false, e1, Option.bind_some]
        cases b1 with
        | false => exact ⟨1, rfl, fun hv => by cases hv⟩
        | true =>
          rw [Bool.not_true, cond_false, e2, Option.bind_some]
          cases b2 with
          | false => exact ⟨8, rfl, fun hv => by cases hv⟩
          | true =>
            rw [Bool.not_true, cond_false, e3, Option.bind_some]
            cases b3 with
            | false => exact ⟨18, rfl, fun hv => by cases hv⟩
            | true =>
              rw [Bool.not_true, cond_false, e, Option.bind_some, wr_in (x := (List.length (α := UnitTypeT) r.1 : Int) + (List.length (α := TechT) r.2.2 : Int)) (by omega) (by omega)]
              by_cases hl : (L.length : Int) < (List.length (α := UnitTypeT) r.1 : Int) + (List.length (α := TechT) r.2.2 : Int)
              · rw [decide_eq_true hl, cond_true]
                exact ⟨14, rfl, fun hv => by cases hv⟩
              · rw [decide_eq_false hl, cond_false]
                refine ⟨0, rfl, fun _ name hn => no_cycle hs ?_ hn⟩
                unfold namesS
                rw [List.length_append, List.length_map, List.length_map]
                omega
      | succ m ih =>
        intro k hk
        have hlt : k < List.length (α := UnitTypeT) r.1 := by omega
        rw [ref09_Validate.j0_eq, lt_true hlt, cond_true, idx_tot hlt, Option.bind_some, has9_eq ts _ hts, Option.bind_some, wr_succ hlt (by omega)]
        cases hasT ts _ with
        | true => exact ⟨7, rfl, fun hv => by cases hv⟩
        | false => exact ih (k + 1) (by omega)
    exact key _ 0 (Nat.zero_add _)
  obtain ⟨b1, e1⟩ := limits_tot h
  obtain ⟨b2, e2⟩ := named_tot h
  obtain ⟨b3, e3⟩ := ordered_tot h
  rw [ref09_Validate.f_eq, e1, Option.bind_some]
  cases b1 with
  | false => exact ⟨2, rfl, fun hv => by cases hv⟩
  | true =>
    rw [Bool.not_true, cond_false, e2, Option.bind_some]
    cases b2 with
    | false => exact ⟨6, rfl, fun hv => by cases hv⟩
    | true =>
      rw [Bool.not_true, cond_false, e3, Option.bind_some]
      cases b3 with
      | false => exact ⟨13, rfl, fun hv => by cases hv⟩
      | true =>
        rw [Bool.not_true, cond_false, techs9 h, Option.bind_some]
        exact hj0 _ (by rw [List.length_map]; unfold Ln; omega)
end
theorem name_of_needs {r : RulesT} {name : ByteArray} (h : (needS r name).2 = true) : name ∈ namesS r := by
  unfold needS at h
  rcases first1_cases (fun u : UnitTypeT => (u, true)) (unit0, false) (r.1.find? fun u => decide (u.1 = name)) with ⟨_, h2⟩ | ⟨u, h1, h2⟩
  · have e : findU r name = (unit0, false) := h2
    rw [e] at h
    rcases first1_cases (fun t : TechT => (t, true)) (tech0, false) (r.2.2.find? fun t => decide (t.1 = name)) with ⟨_, h4⟩ | ⟨t, h3, h4⟩
    · have e2 : findT r name = (tech0, false) := h4
      rw [e2] at h
      cases h
    · exact List.mem_append.2 (.inr (List.mem_map.2 ⟨t, List.mem_of_find?_eq_some h3, by simpa using List.find?_some h3⟩))
  · exact List.mem_append.2 (.inl (List.mem_map.2 ⟨u, List.mem_of_find?_eq_some h1, by simpa using List.find?_some h1⟩))
/-! ### the statement -/
theorem rt_of {r : RulesT} (h : FitsB 1048576 cRules r) (hF : RulesL r) (h1 : (List.length (α := UnitTypeT) r.1 : Int) ≤ 40) (h2 : (List.length (α := TechT) r.2.2 : Int) ≤ 40) : RT2 r := by
  refine { rs_of h hF h1 h2 with wl := h.2.1.1.1, ut := fun u hu => ?_, ur := fun u hu => ?_ }
  · have hu := h.1.2 u hu
    exact hu.2.2.2.2.2.2.2.2.2.2.2.2.2.2.2.2.2.1.1.1
  · have hu := h.1.2 u hu
    exact hu.2.2.2.2.2.2.2.2.2.2.2.2.2.2.2.2.2.2.1.1
theorem closed (r : RulesT) (name : ByteArray) (h : FitsB 1048576 cRules r) (hF : RulesL r) : law29_TechClosed.f r name = some true := by
  rw [law29_TechClosed.f_eq, little2_eq, Option.bind_some, alive]
  by_cases h1 : (List.length (α := UnitTypeT) r.1 : Int) ≤ 40
  · by_cases h2 : (List.length (α := TechT) r.2.2 : Int) ≤ 40
    · have hr := rt_of h hF h1 h2
      rw [decide_eq_true h1, decide_eq_true h2, Bool.and_self, Bool.not_true, cond_false]
      rcases prog_closure hr.toRS name with ⟨k1, e1⟩ | ⟨k1, L, e1, a1, m1⟩
      · rw [e1]; rfl
      · have hlen := Ok.len hr.toRS (nd_len hr.toRS name) ⟨a1, fun x hx => (m1 x).1 hx⟩
        obtain ⟨v, ev, hv⟩ := validate_eq hr
        have hcyc : (v == 0) = true → name ∉ L := fun hz hx => hv (by simpa using hz) name (name_of_needs k1) ((m1 name).1 hx)
        have hsub : ∀ s ∈ L, ∀ x ∈ ndS r s, x ∈ L := fun s hs x hx => (m1 x).2 (.step ((m1 s).1 hs) hx)
        have hasL : ∀ x ∈ L, ref29_Has.f L x = some true := fun x hx => by rw [has_eq L x (by omega), hasT_iff.2 hx]
        have hj2 : ∀ (i : Nat) (hi : i < L.length) (m k : Nat), k + m = (ndS r L[i]).length → law29_TechClosed.j2 name (v == 0) i (ndS r L[i]) L.length i (ndS r L[i]).length k r L = law29_TechClosed.j1 name (v == 0) L.length ((i + 1 : Nat) : Int) r L := by
          intro i hi m
          have hnl := nd_len hr.toRS L[i]
          induction m with
          | zero =>
            intro k hk
            have hw : IntKind.i64.wrap ((i : Int) + 1) = ((i + 1 : Nat) : Int) := wr_succ hi (by omega)
            have hne : (v == 0) = true → (ByteArray.toList L[i] == ByteArray.toList name) = false := fun hz => by
              rw [toList_beq]
              exact decide_eq_false fun e => hcyc hz (e ▸ List.getElem_mem hi)
            have htail : (bif (v == 0) then (bif decide (0 ≤ (i : Int)) && decide ((i : Int) < (L.length : Int)) then ((L[Int.toNat (i : Int)]?).bind fun e2 => bif ByteArray.toList e2 == ByteArray.toList name then some false else law29_TechClosed.j1 name (v == 0) L.length ((i + 1 : Nat) : Int) r L) else none) else law29_TechClosed.j1 name (v == 0) L.length ((i + 1 : Nat) : Int) r L) = law29_TechClosed.j1 name (v == 0) L.length ((i + 1 : Nat) : Int) r L := by
              cases hz : (v == 0) with
              | false => rfl
              | true => rw [cond_true, dec_in hi, cond_true, Int.toNat_natCast, List.getElem?_eq_getElem hi, Option.bind_some, hne hz, cond_false]
            rw [law29_TechClosed.j2_eq, lt_false (by omega), cond_false, hw]
            by_cases h0 : 0 < i
            · have hp : IntKind.i64.wrap ((i : Int) - 1) = ((i - 1 : Nat) : Int) := by rw [wr_in (by omega) (by omega)]; omega
              have hlt2 : i - 1 < L.length := by omega
              have hasc : tb L[i - 1] < tb L[i] := List.pairwise_iff_getElem.1 a1 (i - 1) i hlt2 hi (by omega)
              have hab := above L[i] L[i - 1]
              rw [decide_eq_true hasc, Bool.not_eq_true'] at hab
              rw [decide_eq_true (show (i : Int) > 0 by omega), cond_true, hp, dec_in hi, cond_true, Int.toNat_natCast, List.getElem?_eq_getElem hi, Option.bind_some, dec_in hlt2, cond_true, Int.toNat_natCast, List.getElem?_eq_getElem hlt2, Option.bind_some, hab, cond_false]
              rw [dec_in hi, Int.toNat_natCast, List.getElem?_eq_getElem hi] at htail
              exact htail
            · rw [decide_eq_false (show ¬ (i : Int) > 0 by omega), cond_false]
              exact htail
          | succ m ih =>
            intro k hk
            have hlt : k < (ndS r L[i]).length := by omega
            rw [law29_TechClosed.j2_eq, lt_true hlt, cond_true, idx_tot hlt, Option.bind_some, hasL _ (hsub _ (List.getElem_mem hi) _ (List.getElem_mem hlt)), Option.bind_some, Bool.not_true, cond_false, wr_succ hlt (by omega)]
            exact ih (k + 1) (by omega)
        have hj1 : ∀ (m i : Nat), i + m = L.length → law29_TechClosed.j1 name (v == 0) L.length i r L = some true := by
          intro m
          induction m with
          | zero =>
            intro i hi
            rw [law29_TechClosed.j1_eq, lt_false (by omega), cond_false, alive]
            rfl
          | succ m ih =>
            intro i hi
            have hlt : i < L.length := by omega
            have e := hj2 i hlt _ 0 (Nat.zero_add _)
            rw [show ((0 : Nat) : Int) = 0 from rfl] at e
            rw [law29_TechClosed.j1_eq, lt_true hlt, cond_true, decide_eq_true (show (0 : Int) ≤ (i : Int) by omega), Bool.and_true, cond_true, Int.toNat_natCast, List.getElem?_eq_getElem hlt, Option.bind_some, rneeds_eq r _ hF, Option.bind_some, show (needS r L[i]).1 = ndS r L[i] from rfl, e]
            exact ih (i + 1) (by omega)
        have hnl := nd_len hr.toRS name
        have hj0 : ∀ (m k : Nat), k + m = (ndS r name).length → law29_TechClosed.j0 name (ndS r name) (ndS r name).length k r L = some true := by
          intro m
          induction m with
          | zero =>
            intro k hk
            rw [law29_TechClosed.j0_eq, lt_false (by omega), cond_false, ev, Option.bind_some]
            exact hj1 L.length 0 (by omega)
          | succ m ih =>
            intro k hk
            have hlt : k < (ndS r name).length := by omega
            rw [law29_TechClosed.j0_eq, lt_true hlt, cond_true, idx_tot hlt, Option.bind_some, hasL _ ((m1 _).2 (.base (List.getElem_mem hlt))), Option.bind_some, Bool.not_true, cond_false, wr_succ hlt (by omega)]
            exact ih (k + 1) (by omega)
        rw [e1, Option.bind_some]
        show (bif (0 : Int) != 0 then _ else _) = _
        rw [show ((0 : Int) != 0) = false from rfl, cond_false, rneeds_eq r name hF, Option.bind_some]
        exact hj0 _ 0 (Nat.zero_add _)
    · rw [decide_eq_false h2, Bool.and_false]; rfl
  · rw [decide_eq_false h1, Bool.false_and]; rfl
end Go.Proofs.Ytpcahneiinjdmaa

/- The functions, as limits of the evaluator: printed by a program. -/
set_option linter.unusedVariables false
namespace Go.Proofs.Ytpcahneiinjdmaa
open Go Go.Sk

/-- slices.Insert[[]string,string] -/
noncomputable def room_slices_Insert.f (xs : (List ByteArray)) (sp : (List ByteArray)) (ys : (List ByteArray)) (i : Int) : Option (List ByteArray) := callX Try.prog cfg0 49 [(.one (.ovw 1 0 (List.length (α := El .str) xs))), (.one (.int .i64 i)), (.one (.osl 2))] [(.ghost []), (.full .str (List.append (α := El .str) xs sp)), (.row .str ys)] ⟨[.one (.ty (.slice .str))], 0⟩
end Go.Proofs.Ytpcahneiinjdmaa

/- The functions' equations: printed by a program. -/
set_option linter.unusedVariables false
set_option maxRecDepth 100000
set_option maxHeartbeats 4000000
namespace Go.Proofs.Ytpcahneiinjdmaa
open Go Go.Sk

theorem room_slices_Insert.f_eq (xs : (List ByteArray)) (sp : (List ByteArray)) (ys : (List ByteArray)) (i : Int) : room_slices_Insert.f xs sp ys i = (bif (Decidable.decide (0 ≤ i) && Decidable.decide (i ≤ (↑(List.length xs) : Int)) && Decidable.decide ((↑0 : Int) + (↑(List.length xs) : Int) ≤ (↑(List.length (List.append xs sp)) : Int))) then (bif ((↑(List.length ys) : Int) == 0) then (bif (Decidable.decide (0 + List.length xs ≤ List.length (List.append xs sp))) then some (List.take (List.length xs) (List.drop 0 (List.append xs sp))) else none) else (bif (i == (↑(List.length xs) : Int)) then (bif (Decidable.decide (0 + List.length xs ≤ List.length (List.append xs sp))) then (bif (Decidable.decide (0 + List.length xs + List.length ys ≤ List.length (List.append xs sp))) then (bif (Decidable.decide (0 + (List.length xs + List.length ys) ≤ List.length (List.take (0 + List.length xs) (List.append xs sp) ++ ys ++ List.drop (0 + List.length xs + List.length ys) (List.append xs sp)))) then some (List.take (List.length xs + List.length ys) (List.drop 0 (List.take (0 + List.length xs) (List.append xs sp) ++ ys ++ List.drop (0 + List.length xs + List.length ys) (List.append xs sp)))) else none) else (bif (Decidable.decide ((List.length xs + List.length ys) * 16 ≤ 140737488355328)) then some (List.take (List.length xs) (List.drop 0 (List.append xs sp)) ++ ys) else none)) else none) else (bif (Decidable.decide (Go.IntKind.wrap Go.IntKind.i64 ((↑(List.length xs) : Int) + (↑(List.length ys) : Int)) > (↑(List.length (List.append xs sp) - 0) : Int))) then (bif (Decidable.decide (0 ≤ 0) && Decidable.decide (0 ≤ i) && Decidable.decide ((↑0 : Int) + i ≤ (↑(List.length (List.append xs sp)) : Int))) then (bif (Decidable.decide (0 ≤ Go.IntKind.wrap Go.IntKind.i64 (Go.IntKind.wrap Go.IntKind.i64 ((↑(List.length xs) : Int) + (↑(List.length ys) : Int)) - i)) && Decidable.decide (0 + Int.toNat (i - 0) ≤ List.length (List.append xs sp)) && Decidable.decide (List.length (List.append xs sp) < 0 + Int.toNat (i - 0) + Int.toNat (Go.IntKind.wrap Go.IntKind.i64 (Go.IntKind.wrap Go.IntKind.i64 ((↑(List.length xs) : Int) + (↑(List.length ys) : Int)) - i))) && Decidable.decide ((Int.toNat (i - 0) + Int.toNat (Go.IntKind.wrap Go.IntKind.i64 (Go.IntKind.wrap Go.IntKind.i64 ((↑(List.length xs) : Int) + (↑(List.length ys) : Int)) - i))) * 16 ≤ 140737488355328)) then (bif (Decidable.decide (0 ≤ i) && Decidable.decide (i ≤ (↑(List.length (List.take (Int.toNat (i - 0)) (List.drop 0 (List.append xs sp)) ++ List.replicate (Int.toNat (Go.IntKind.wrap Go.IntKind.i64 (Go.IntKind.wrap Go.IntKind.i64 ((↑(List.length xs) : Int) + (↑(List.length ys) : Int)) - i))) { data := #[] })) : Int)) && Decidable.decide ((↑(List.length (List.take (Int.toNat (i - 0)) (List.drop 0 (List.append xs sp)) ++ List.replicate (Int.toNat (Go.IntKind.wrap Go.IntKind.i64 (Go.IntKind.wrap Go.IntKind.i64 ((↑(List.length xs) : Int) + (↑(List.length ys) : Int)) - i))) { data := #[] })) : Int) ≤ (↑(List.length (List.take (Int.toNat (i - 0)) (List.drop 0 (List.append xs sp)) ++ List.replicate (Int.toNat (Go.IntKind.wrap Go.IntKind.i64 (Go.IntKind.wrap Go.IntKind.i64 ((↑(List.length xs) : Int) + (↑(List.length ys) : Int)) - i))) { data := #[] })) : Int))) then (bif (Decidable.decide (Int.toNat i + Int.toNat ((↑(List.length (List.take (Int.toNat (i - 0)) (List.drop 0 (List.append xs sp)) ++ List.replicate (Int.toNat (Go.IntKind.wrap Go.IntKind.i64 (Go.IntKind.wrap Go.IntKind.i64 ((↑(List.length xs) : Int) + (↑(List.length ys) : Int)) - i))) { data := #[] })) : Int) - i) ≤ List.length (List.take (Int.toNat (i - 0)) (List.drop 0 (List.append xs sp)) ++ List.replicate (Int.toNat (Go.IntKind.wrap Go.IntKind.i64 (Go.IntKind.wrap Go.IntKind.i64 ((↑(List.length xs) : Int) + (↑(List.length ys) : Int)) - i))) { data := #[] }))) then (bif (Decidable.decide (0 ≤ Go.IntKind.wrap Go.IntKind.i64 (i + (↑(List.length ys) : Int))) && Decidable.decide (Go.IntKind.wrap Go.IntKind.i64 (i + (↑(List.length ys) : Int)) ≤ (↑(List.length (List.take (Int.toNat i) (List.take (Int.toNat (i - 0)) (List.drop 0 (List.append xs sp)) ++ List.replicate (Int.toNat (Go.IntKind.wrap Go.IntKind.i64 (Go.IntKind.wrap Go.IntKind.i64 ((↑(List.length xs) : Int) + (↑(List.length ys) : Int)) - i))) { data := #[] }) ++ List.take (Int.toNat ((↑(List.length (List.take (Int.toNat (i - 0)) (List.drop 0 (List.append xs sp)) ++ List.replicate (Int.toNat (Go.IntKind.wrap Go.IntKind.i64 (Go.IntKind.wrap Go.IntKind.i64 ((↑(List.length xs) : Int) + (↑(List.length ys) : Int)) - i))) { data := #[] })) : Int) - i)) ys ++ List.drop (Int.toNat i + Min.min (List.length ys) (Int.toNat ((↑(List.length (List.take (Int.toNat (i - 0)) (List.drop 0 (List.append xs sp)) ++ List.replicate (Int.toNat (Go.IntKind.wrap Go.IntKind.i64 (Go.IntKind.wrap Go.IntKind.i64 ((↑(List.length xs) : Int) + (↑(List.length ys) : Int)) - i))) { data := #[] })) : Int) - i))) (List.take (Int.toNat (i - 0)) (List.drop 0 (List.append xs sp)) ++ List.replicate (Int.toNat (Go.IntKind.wrap Go.IntKind.i64 (Go.IntKind.wrap Go.IntKind.i64 ((↑(List.length xs) : Int) + (↑(List.length ys) : Int)) - i))) { data := #[] }))) : Int)) && Decidable.decide ((↑(List.length (List.take (Int.toNat i) (List.take (Int.toNat (i - 0)) (List.drop 0 (List.append xs sp)) ++ List.replicate (Int.toNat (Go.IntKind.wrap Go.IntKind.i64 (Go.IntKind.wrap Go.IntKind.i64 ((↑(List.length xs) : Int) + (↑(List.length ys) : Int)) - i))) { data := #[] }) ++ List.take (Int.toNat ((↑(List.length (List.take (Int.toNat (i - 0)) (List.drop 0 (List.append xs sp)) ++ List.replicate (Int.toNat (Go.IntKind.wrap Go.IntKind.i64 (Go.IntKind.wrap Go.IntKind.i64 ((↑(List.length xs) : Int) + (↑(List.length ys) : Int)) - i))) { data := #[] })) : Int) - i)) ys ++ List.drop (Int.toNat i + Min.min (List.length ys) (Int.toNat ((↑(List.length (List.take (Int.toNat (i - 0)) (List.drop 0 (List.append xs sp)) ++ List.replicate (Int.toNat (Go.IntKind.wrap Go.IntKind.i64 (Go.IntKind.wrap Go.IntKind.i64 ((↑(List.length xs) : Int) + (↑(List.length ys) : Int)) - i))) { data := #[] })) : Int) - i))) (List.take (Int.toNat (i - 0)) (List.drop 0 (List.append xs sp)) ++ List.replicate (Int.toNat (Go.IntKind.wrap Go.IntKind.i64 (Go.IntKind.wrap Go.IntKind.i64 ((↑(List.length xs) : Int) + (↑(List.length ys) : Int)) - i))) { data := #[] }))) : Int) ≤ (↑(List.length (List.take (Int.toNat i) (List.take (Int.toNat (i - 0)) (List.drop 0 (List.append xs sp)) ++ List.replicate (Int.toNat (Go.IntKind.wrap Go.IntKind.i64 (Go.IntKind.wrap Go.IntKind.i64 ((↑(List.length xs) : Int) + (↑(List.length ys) : Int)) - i))) { data := #[] }) ++ List.take (Int.toNat ((↑(List.length (List.take (Int.toNat (i - 0)) (List.drop 0 (List.append xs sp)) ++ List.replicate (Int.toNat (Go.IntKind.wrap Go.IntKind.i64 (Go.IntKind.wrap Go.IntKind.i64 ((↑(List.length xs) : Int) + (↑(List.length ys) : Int)) - i))) { data := #[] })) : Int) - i)) ys ++ List.drop (Int.toNat i + Min.min (List.length ys) (Int.toNat ((↑(List.length (List.take (Int.toNat (i - 0)) (List.drop 0 (List.append xs sp)) ++ List.replicate (Int.toNat (Go.IntKind.wrap Go.IntKind.i64 (Go.IntKind.wrap Go.IntKind.i64 ((↑(List.length xs) : Int) + (↑(List.length ys) : Int)) - i))) { data := #[] })) : Int) - i))) (List.take (Int.toNat (i - 0)) (List.drop 0 (List.append xs sp)) ++ List.replicate (Int.toNat (Go.IntKind.wrap Go.IntKind.i64 (Go.IntKind.wrap Go.IntKind.i64 ((↑(List.length xs) : Int) + (↑(List.length ys) : Int)) - i))) { data := #[] }))) : Int))) then (bif (Decidable.decide (0 ≤ i) && Decidable.decide (i ≤ (↑(List.length xs) : Int)) && Decidable.decide ((↑0 : Int) + (↑(List.length xs) : Int) ≤ (↑(List.length (List.append xs sp)) : Int))) then (bif (Decidable.decide (0 + Int.toNat i + Int.toNat ((↑(List.length xs) : Int) - i) ≤ List.length (List.append xs sp))) then (bif (Decidable.decide (Int.toNat (Go.IntKind.wrap Go.IntKind.i64 (i + (↑(List.length ys) : Int))) + Int.toNat ((↑(List.length (List.take (Int.toNat i) (List.take (Int.toNat (i - 0)) (List.drop 0 (List.append xs sp)) ++ List.replicate (Int.toNat (Go.IntKind.wrap Go.IntKind.i64 (Go.IntKind.wrap Go.IntKind.i64 ((↑(List.length xs) : Int) + (↑(List.length ys) : Int)) - i))) { data := #[] }) ++ List.take (Int.toNat ((↑(List.length (List.take (Int.toNat (i - 0)) (List.drop 0 (List.append xs sp)) ++ List.replicate (Int.toNat (Go.IntKind.wrap Go.IntKind.i64 (Go.IntKind.wrap Go.IntKind.i64 ((↑(List.length xs) : Int) + (↑(List.length ys) : Int)) - i))) { data := #[] })) : Int) - i)) ys ++ List.drop (Int.toNat i + Min.min (List.length ys) (Int.toNat ((↑(List.length (List.take (Int.toNat (i - 0)) (List.drop 0 (List.append xs sp)) ++ List.replicate (Int.toNat (Go.IntKind.wrap Go.IntKind.i64 (Go.IntKind.wrap Go.IntKind.i64 ((↑(List.length xs) : Int) + (↑(List.length ys) : Int)) - i))) { data := #[] })) : Int) - i))) (List.take (Int.toNat (i - 0)) (List.drop 0 (List.append xs sp)) ++ List.replicate (Int.toNat (Go.IntKind.wrap Go.IntKind.i64 (Go.IntKind.wrap Go.IntKind.i64 ((↑(List.length xs) : Int) + (↑(List.length ys) : Int)) - i))) { data := #[] }))) : Int) - Go.IntKind.wrap Go.IntKind.i64 (i + (↑(List.length ys) : Int))) ≤ List.length (List.take (Int.toNat i) (List.take (Int.toNat (i - 0)) (List.drop 0 (List.append xs sp)) ++ List.replicate (Int.toNat (Go.IntKind.wrap Go.IntKind.i64 (Go.IntKind.wrap Go.IntKind.i64 ((↑(List.length xs) : Int) + (↑(List.length ys) : Int)) - i))) { data := #[] }) ++ List.take (Int.toNat ((↑(List.length (List.take (Int.toNat (i - 0)) (List.drop 0 (List.append xs sp)) ++ List.replicate (Int.toNat (Go.IntKind.wrap Go.IntKind.i64 (Go.IntKind.wrap Go.IntKind.i64 ((↑(List.length xs) : Int) + (↑(List.length ys) : Int)) - i))) { data := #[] })) : Int) - i)) ys ++ List.drop (Int.toNat i + Min.min (List.length ys) (Int.toNat ((↑(List.length (List.take (Int.toNat (i - 0)) (List.drop 0 (List.append xs sp)) ++ List.replicate (Int.toNat (Go.IntKind.wrap Go.IntKind.i64 (Go.IntKind.wrap Go.IntKind.i64 ((↑(List.length xs) : Int) + (↑(List.length ys) : Int)) - i))) { data := #[] })) : Int) - i))) (List.take (Int.toNat (i - 0)) (List.drop 0 (List.append xs sp)) ++ List.replicate (Int.toNat (Go.IntKind.wrap Go.IntKind.i64 (Go.IntKind.wrap Go.IntKind.i64 ((↑(List.length xs) : Int) + (↑(List.length ys) : Int)) - i))) { data := #[] })))) then some (List.take (Int.toNat (Go.IntKind.wrap Go.IntKind.i64 (i + (↑(List.length ys) : Int)))) (List.take (Int.toNat i) (List.take (Int.toNat (i - 0)) (List.drop 0 (List.append xs sp)) ++ List.replicate (Int.toNat (Go.IntKind.wrap Go.IntKind.i64 (Go.IntKind.wrap Go.IntKind.i64 ((↑(List.length xs) : Int) + (↑(List.length ys) : Int)) - i))) { data := #[] }) ++ List.take (Int.toNat ((↑(List.length (List.take (Int.toNat (i - 0)) (List.drop 0 (List.append xs sp)) ++ List.replicate (Int.toNat (Go.IntKind.wrap Go.IntKind.i64 (Go.IntKind.wrap Go.IntKind.i64 ((↑(List.length xs) : Int) + (↑(List.length ys) : Int)) - i))) { data := #[] })) : Int) - i)) ys ++ List.drop (Int.toNat i + Min.min (List.length ys) (Int.toNat ((↑(List.length (List.take (Int.toNat (i - 0)) (List.drop 0 (List.append xs sp)) ++ List.replicate (Int.toNat (Go.IntKind.wrap Go.IntKind.i64 (Go.IntKind.wrap Go.IntKind.i64 ((↑(List.length xs) : Int) + (↑(List.length ys) : Int)) - i))) { data := #[] })) : Int) - i))) (List.take (Int.toNat (i - 0)) (List.drop 0 (List.append xs sp)) ++ List.replicate (Int.toNat (Go.IntKind.wrap Go.IntKind.i64 (Go.IntKind.wrap Go.IntKind.i64 ((↑(List.length xs) : Int) + (↑(List.length ys) : Int)) - i))) { data := #[] })) ++ List.take (Int.toNat ((↑(List.length (List.take (Int.toNat i) (List.take (Int.toNat (i - 0)) (List.drop 0 (List.append xs sp)) ++ List.replicate (Int.toNat (Go.IntKind.wrap Go.IntKind.i64 (Go.IntKind.wrap Go.IntKind.i64 ((↑(List.length xs) : Int) + (↑(List.length ys) : Int)) - i))) { data := #[] }) ++ List.take (Int.toNat ((↑(List.length (List.take (Int.toNat (i - 0)) (List.drop 0 (List.append xs sp)) ++ List.replicate (Int.toNat (Go.IntKind.wrap Go.IntKind.i64 (Go.IntKind.wrap Go.IntKind.i64 ((↑(List.length xs) : Int) + (↑(List.length ys) : Int)) - i))) { data := #[] })) : Int) - i)) ys ++ List.drop (Int.toNat i + Min.min (List.length ys) (Int.toNat ((↑(List.length (List.take (Int.toNat (i - 0)) (List.drop 0 (List.append xs sp)) ++ List.replicate (Int.toNat (Go.IntKind.wrap Go.IntKind.i64 (Go.IntKind.wrap Go.IntKind.i64 ((↑(List.length xs) : Int) + (↑(List.length ys) : Int)) - i))) { data := #[] })) : Int) - i))) (List.take (Int.toNat (i - 0)) (List.drop 0 (List.append xs sp)) ++ List.replicate (Int.toNat (Go.IntKind.wrap Go.IntKind.i64 (Go.IntKind.wrap Go.IntKind.i64 ((↑(List.length xs) : Int) + (↑(List.length ys) : Int)) - i))) { data := #[] }))) : Int) - Go.IntKind.wrap Go.IntKind.i64 (i + (↑(List.length ys) : Int)))) (List.take (Int.toNat ((↑(List.length xs) : Int) - i)) (List.drop (0 + Int.toNat i) (List.append xs sp))) ++ List.drop (Int.toNat (Go.IntKind.wrap Go.IntKind.i64 (i + (↑(List.length ys) : Int))) + Min.min (List.length (List.take (Int.toNat ((↑(List.length xs) : Int) - i)) (List.drop (0 + Int.toNat i) (List.append xs sp)))) (Int.toNat ((↑(List.length (List.take (Int.toNat i) (List.take (Int.toNat (i - 0)) (List.drop 0 (List.append xs sp)) ++ List.replicate (Int.toNat (Go.IntKind.wrap Go.IntKind.i64 (Go.IntKind.wrap Go.IntKind.i64 ((↑(List.length xs) : Int) + (↑(List.length ys) : Int)) - i))) { data := #[] }) ++ List.take (Int.toNat ((↑(List.length (List.take (Int.toNat (i - 0)) (List.drop 0 (List.append xs sp)) ++ List.replicate (Int.toNat (Go.IntKind.wrap Go.IntKind.i64 (Go.IntKind.wrap Go.IntKind.i64 ((↑(List.length xs) : Int) + (↑(List.length ys) : Int)) - i))) { data := #[] })) : Int) - i)) ys ++ List.drop (Int.toNat i + Min.min (List.length ys) (Int.toNat ((↑(List.length (List.take (Int.toNat (i - 0)) (List.drop 0 (List.append xs sp)) ++ List.replicate (Int.toNat (Go.IntKind.wrap Go.IntKind.i64 (Go.IntKind.wrap Go.IntKind.i64 ((↑(List.length xs) : Int) + (↑(List.length ys) : Int)) - i))) { data := #[] })) : Int) - i))) (List.take (Int.toNat (i - 0)) (List.drop 0 (List.append xs sp)) ++ List.replicate (Int.toNat (Go.IntKind.wrap Go.IntKind.i64 (Go.IntKind.wrap Go.IntKind.i64 ((↑(List.length xs) : Int) + (↑(List.length ys) : Int)) - i))) { data := #[] }))) : Int) - Go.IntKind.wrap Go.IntKind.i64 (i + (↑(List.length ys) : Int))))) (List.take (Int.toNat i) (List.take (Int.toNat (i - 0)) (List.drop 0 (List.append xs sp)) ++ List.replicate (Int.toNat (Go.IntKind.wrap Go.IntKind.i64 (Go.IntKind.wrap Go.IntKind.i64 ((↑(List.length xs) : Int) + (↑(List.length ys) : Int)) - i))) { data := #[] }) ++ List.take (Int.toNat ((↑(List.length (List.take (Int.toNat (i - 0)) (List.drop 0 (List.append xs sp)) ++ List.replicate (Int.toNat (Go.IntKind.wrap Go.IntKind.i64 (Go.IntKind.wrap Go.IntKind.i64 ((↑(List.length xs) : Int) + (↑(List.length ys) : Int)) - i))) { data := #[] })) : Int) - i)) ys ++ List.drop (Int.toNat i + Min.min (List.length ys) (Int.toNat ((↑(List.length (List.take (Int.toNat (i - 0)) (List.drop 0 (List.append xs sp)) ++ List.replicate (Int.toNat (Go.IntKind.wrap Go.IntKind.i64 (Go.IntKind.wrap Go.IntKind.i64 ((↑(List.length xs) : Int) + (↑(List.length ys) : Int)) - i))) { data := #[] })) : Int) - i))) (List.take (Int.toNat (i - 0)) (List.drop 0 (List.append xs sp)) ++ List.replicate (Int.toNat (Go.IntKind.wrap Go.IntKind.i64 (Go.IntKind.wrap Go.IntKind.i64 ((↑(List.length xs) : Int) + (↑(List.length ys) : Int)) - i))) { data := #[] }))) else none) else none) else none) else none) else none) else none) else none) else none) else (bif (Decidable.decide (0 ≤ 0) && Decidable.decide (0 ≤ Go.IntKind.wrap Go.IntKind.i64 ((↑(List.length xs) : Int) + (↑(List.length ys) : Int))) && Decidable.decide ((↑0 : Int) + Go.IntKind.wrap Go.IntKind.i64 ((↑(List.length xs) : Int) + (↑(List.length ys) : Int)) ≤ (↑(List.length (List.append xs sp)) : Int))) then (bif (Decidable.decide (0 ≤ Go.IntKind.wrap Go.IntKind.i64 (i + (↑(List.length ys) : Int))) && Decidable.decide (Go.IntKind.wrap Go.IntKind.i64 (i + (↑(List.length ys) : Int)) ≤ (↑(Int.toNat (Go.IntKind.wrap Go.IntKind.i64 ((↑(List.length xs) : Int) + (↑(List.length ys) : Int)) - 0)) : Int)) && Decidable.decide ((↑0 : Int) + (↑(Int.toNat (Go.IntKind.wrap Go.IntKind.i64 ((↑(List.length xs) : Int) + (↑(List.length ys) : Int)) - 0)) : Int) ≤ (↑(List.length (List.append xs sp)) : Int))) then (bif (Decidable.decide (0 ≤ Go.IntKind.wrap Go.IntKind.i64 (i + (↑(List.length ys) : Int))) && Decidable.decide (Go.IntKind.wrap Go.IntKind.i64 (i + (↑(List.length ys) : Int)) ≤ (↑(Int.toNat (Go.IntKind.wrap Go.IntKind.i64 ((↑(List.length xs) : Int) + (↑(List.length ys) : Int)) - 0)) : Int)) && Decidable.decide ((↑0 : Int) + (↑(Int.toNat (Go.IntKind.wrap Go.IntKind.i64 ((↑(List.length xs) : Int) + (↑(List.length ys) : Int)) - 0)) : Int) ≤ (↑(List.length (List.append xs sp)) : Int))) then (bif (Decidable.decide (0 ≤ i) && Decidable.decide (i ≤ (↑(Int.toNat (Go.IntKind.wrap Go.IntKind.i64 ((↑(List.length xs) : Int) + (↑(List.length ys) : Int)) - 0)) : Int)) && Decidable.decide ((↑0 : Int) + (↑(Int.toNat (Go.IntKind.wrap Go.IntKind.i64 ((↑(List.length xs) : Int) + (↑(List.length ys) : Int)) - 0)) : Int) ≤ (↑(List.length (List.append xs sp)) : Int))) then (bif (Decidable.decide (0 + Int.toNat i + Int.toNat ((↑(Int.toNat (Go.IntKind.wrap Go.IntKind.i64 ((↑(List.length xs) : Int) + (↑(List.length ys) : Int)) - 0)) : Int) - i) ≤ List.length (List.append xs sp))) then (bif (Decidable.decide (0 + Int.toNat (Go.IntKind.wrap Go.IntKind.i64 (i + (↑(List.length ys) : Int))) + Int.toNat ((↑(Int.toNat (Go.IntKind.wrap Go.IntKind.i64 ((↑(List.length xs) : Int) + (↑(List.length ys) : Int)) - 0)) : Int) - Go.IntKind.wrap Go.IntKind.i64 (i + (↑(List.length ys) : Int))) ≤ List.length (List.append xs sp))) then (bif (Decidable.decide (0 ≤ i) && Decidable.decide (i ≤ (↑(Int.toNat (Go.IntKind.wrap Go.IntKind.i64 ((↑(List.length xs) : Int) + (↑(List.length ys) : Int)) - 0)) : Int)) && Decidable.decide ((↑0 : Int) + (↑(Int.toNat (Go.IntKind.wrap Go.IntKind.i64 ((↑(List.length xs) : Int) + (↑(List.length ys) : Int)) - 0)) : Int) ≤ (↑(List.length (List.take (0 + Int.toNat (Go.IntKind.wrap Go.IntKind.i64 (i + (↑(List.length ys) : Int)))) (List.append xs sp) ++ List.take (Int.toNat ((↑(Int.toNat (Go.IntKind.wrap Go.IntKind.i64 ((↑(List.length xs) : Int) + (↑(List.length ys) : Int)) - 0)) : Int) - Go.IntKind.wrap Go.IntKind.i64 (i + (↑(List.length ys) : Int)))) (List.take (Int.toNat ((↑(Int.toNat (Go.IntKind.wrap Go.IntKind.i64 ((↑(List.length xs) : Int) + (↑(List.length ys) : Int)) - 0)) : Int) - i)) (List.drop (0 + Int.toNat i) (List.append xs sp))) ++ List.drop (0 + Int.toNat (Go.IntKind.wrap Go.IntKind.i64 (i + (↑(List.length ys) : Int))) + Min.min (List.length (List.take (Int.toNat ((↑(Int.toNat (Go.IntKind.wrap Go.IntKind.i64 ((↑(List.length xs) : Int) + (↑(List.length ys) : Int)) - 0)) : Int) - i)) (List.drop (0 + Int.toNat i) (List.append xs sp)))) (Int.toNat ((↑(Int.toNat (Go.IntKind.wrap Go.IntKind.i64 ((↑(List.length xs) : Int) + (↑(List.length ys) : Int)) - 0)) : Int) - Go.IntKind.wrap Go.IntKind.i64 (i + (↑(List.length ys) : Int))))) (List.append xs sp))) : Int))) then (bif (Decidable.decide (0 + Int.toNat i + Int.toNat ((↑(Int.toNat (Go.IntKind.wrap Go.IntKind.i64 ((↑(List.length xs) : Int) + (↑(List.length ys) : Int)) - 0)) : Int) - i) ≤ List.length (List.take (0 + Int.toNat (Go.IntKind.wrap Go.IntKind.i64 (i + (↑(List.length ys) : Int)))) (List.append xs sp) ++ List.take (Int.toNat ((↑(Int.toNat (Go.IntKind.wrap Go.IntKind.i64 ((↑(List.length xs) : Int) + (↑(List.length ys) : Int)) - 0)) : Int) - Go.IntKind.wrap Go.IntKind.i64 (i + (↑(List.length ys) : Int)))) (List.take (Int.toNat ((↑(Int.toNat (Go.IntKind.wrap Go.IntKind.i64 ((↑(List.length xs) : Int) + (↑(List.length ys) : Int)) - 0)) : Int) - i)) (List.drop (0 + Int.toNat i) (List.append xs sp))) ++ List.drop (0 + Int.toNat (Go.IntKind.wrap Go.IntKind.i64 (i + (↑(List.length ys) : Int))) + Min.min (List.length (List.take (Int.toNat ((↑(Int.toNat (Go.IntKind.wrap Go.IntKind.i64 ((↑(List.length xs) : Int) + (↑(List.length ys) : Int)) - 0)) : Int) - i)) (List.drop (0 + Int.toNat i) (List.append xs sp)))) (Int.toNat ((↑(Int.toNat (Go.IntKind.wrap Go.IntKind.i64 ((↑(List.length xs) : Int) + (↑(List.length ys) : Int)) - 0)) : Int) - Go.IntKind.wrap Go.IntKind.i64 (i + (↑(List.length ys) : Int))))) (List.append xs sp)))) then (bif (Decidable.decide (0 + Int.toNat (Go.IntKind.wrap Go.IntKind.i64 ((↑(List.length xs) : Int) + (↑(List.length ys) : Int)) - 0) ≤ List.length (List.take (0 + Int.toNat i) (List.take (0 + Int.toNat (Go.IntKind.wrap Go.IntKind.i64 (i + (↑(List.length ys) : Int)))) (List.append xs sp) ++ List.take (Int.toNat ((↑(Int.toNat (Go.IntKind.wrap Go.IntKind.i64 ((↑(List.length xs) : Int) + (↑(List.length ys) : Int)) - 0)) : Int) - Go.IntKind.wrap Go.IntKind.i64 (i + (↑(List.length ys) : Int)))) (List.take (Int.toNat ((↑(Int.toNat (Go.IntKind.wrap Go.IntKind.i64 ((↑(List.length xs) : Int) + (↑(List.length ys) : Int)) - 0)) : Int) - i)) (List.drop (0 + Int.toNat i) (List.append xs sp))) ++ List.drop (0 + Int.toNat (Go.IntKind.wrap Go.IntKind.i64 (i + (↑(List.length ys) : Int))) + Min.min (List.length (List.take (Int.toNat ((↑(Int.toNat (Go.IntKind.wrap Go.IntKind.i64 ((↑(List.length xs) : Int) + (↑(List.length ys) : Int)) - 0)) : Int) - i)) (List.drop (0 + Int.toNat i) (List.append xs sp)))) (Int.toNat ((↑(Int.toNat (Go.IntKind.wrap Go.IntKind.i64 ((↑(List.length xs) : Int) + (↑(List.length ys) : Int)) - 0)) : Int) - Go.IntKind.wrap Go.IntKind.i64 (i + (↑(List.length ys) : Int))))) (List.append xs sp)) ++ List.take (Int.toNat ((↑(Int.toNat (Go.IntKind.wrap Go.IntKind.i64 ((↑(List.length xs) : Int) + (↑(List.length ys) : Int)) - 0)) : Int) - i)) ys ++ List.drop (0 + Int.toNat i + Min.min (List.length ys) (Int.toNat ((↑(Int.toNat (Go.IntKind.wrap Go.IntKind.i64 ((↑(List.length xs) : Int) + (↑(List.length ys) : Int)) - 0)) : Int) - i))) (List.take (0 + Int.toNat (Go.IntKind.wrap Go.IntKind.i64 (i + (↑(List.length ys) : Int)))) (List.append xs sp) ++ List.take (Int.toNat ((↑(Int.toNat (Go.IntKind.wrap Go.IntKind.i64 ((↑(List.length xs) : Int) + (↑(List.length ys) : Int)) - 0)) : Int) - Go.IntKind.wrap Go.IntKind.i64 (i + (↑(List.length ys) : Int)))) (List.take (Int.toNat ((↑(Int.toNat (Go.IntKind.wrap Go.IntKind.i64 ((↑(List.length xs) : Int) + (↑(List.length ys) : Int)) - 0)) : Int) - i)) (List.drop (0 + Int.toNat i) (List.append xs sp))) ++ List.drop (0 + Int.toNat (Go.IntKind.wrap Go.IntKind.i64 (i + (↑(List.length ys) : Int))) + Min.min (List.length (List.take (Int.toNat ((↑(Int.toNat (Go.IntKind.wrap Go.IntKind.i64 ((↑(List.length xs) : Int) + (↑(List.length ys) : Int)) - 0)) : Int) - i)) (List.drop (0 + Int.toNat i) (List.append xs sp)))) (Int.toNat ((↑(Int.toNat (Go.IntKind.wrap Go.IntKind.i64 ((↑(List.length xs) : Int) + (↑(List.length ys) : Int)) - 0)) : Int) - Go.IntKind.wrap Go.IntKind.i64 (i + (↑(List.length ys) : Int))))) (List.append xs sp))))) then some (List.take (Int.toNat (Go.IntKind.wrap Go.IntKind.i64 ((↑(List.length xs) : Int) + (↑(List.length ys) : Int)) - 0)) (List.drop 0 (List.take (0 + Int.toNat i) (List.take (0 + Int.toNat (Go.IntKind.wrap Go.IntKind.i64 (i + (↑(List.length ys) : Int)))) (List.append xs sp) ++ List.take (Int.toNat ((↑(Int.toNat (Go.IntKind.wrap Go.IntKind.i64 ((↑(List.length xs) : Int) + (↑(List.length ys) : Int)) - 0)) : Int) - Go.IntKind.wrap Go.IntKind.i64 (i + (↑(List.length ys) : Int)))) (List.take (Int.toNat ((↑(Int.toNat (Go.IntKind.wrap Go.IntKind.i64 ((↑(List.length xs) : Int) + (↑(List.length ys) : Int)) - 0)) : Int) - i)) (List.drop (0 + Int.toNat i) (List.append xs sp))) ++ List.drop (0 + Int.toNat (Go.IntKind.wrap Go.IntKind.i64 (i + (↑(List.length ys) : Int))) + Min.min (List.length (List.take (Int.toNat ((↑(Int.toNat (Go.IntKind.wrap Go.IntKind.i64 ((↑(List.length xs) : Int) + (↑(List.length ys) : Int)) - 0)) : Int) - i)) (List.drop (0 + Int.toNat i) (List.append xs sp)))) (Int.toNat ((↑(Int.toNat (Go.IntKind.wrap Go.IntKind.i64 ((↑(List.length xs) : Int) + (↑(List.length ys) : Int)) - 0)) : Int) - Go.IntKind.wrap Go.IntKind.i64 (i + (↑(List.length ys) : Int))))) (List.append xs sp)) ++ List.take (Int.toNat ((↑(Int.toNat (Go.IntKind.wrap Go.IntKind.i64 ((↑(List.length xs) : Int) + (↑(List.length ys) : Int)) - 0)) : Int) - i)) ys ++ List.drop (0 + Int.toNat i + Min.min (List.length ys) (Int.toNat ((↑(Int.toNat (Go.IntKind.wrap Go.IntKind.i64 ((↑(List.length xs) : Int) + (↑(List.length ys) : Int)) - 0)) : Int) - i))) (List.take (0 + Int.toNat (Go.IntKind.wrap Go.IntKind.i64 (i + (↑(List.length ys) : Int)))) (List.append xs sp) ++ List.take (Int.toNat ((↑(Int.toNat (Go.IntKind.wrap Go.IntKind.i64 ((↑(List.length xs) : Int) + (↑(List.length ys) : Int)) - 0)) : Int) - Go.IntKind.wrap Go.IntKind.i64 (i + (↑(List.length ys) : Int)))) (List.take (Int.toNat ((↑(Int.toNat (Go.IntKind.wrap Go.IntKind.i64 ((↑(List.length xs) : Int) + (↑(List.length ys) : Int)) - 0)) : Int) - i)) (List.drop (0 + Int.toNat i) (List.append xs sp))) ++ List.drop (0 + Int.toNat (Go.IntKind.wrap Go.IntKind.i64 (i + (↑(List.length ys) : Int))) + Min.min (List.length (List.take (Int.toNat ((↑(Int.toNat (Go.IntKind.wrap Go.IntKind.i64 ((↑(List.length xs) : Int) + (↑(List.length ys) : Int)) - 0)) : Int) - i)) (List.drop (0 + Int.toNat i) (List.append xs sp)))) (Int.toNat ((↑(Int.toNat (Go.IntKind.wrap Go.IntKind.i64 ((↑(List.length xs) : Int) + (↑(List.length ys) : Int)) - 0)) : Int) - Go.IntKind.wrap Go.IntKind.i64 (i + (↑(List.length ys) : Int))))) (List.append xs sp))))) else none) else none) else none) else none) else none) else none) else none) else none) else none)))) else none) := (lim_step _ _ _ _ _ _).trans (by kernel_rfl)
end Go.Proofs.Ytpcahneiinjdmaa

/- slices.Insert at a row whose room is known: what it comes to. -/
set_option linter.unusedSimpArgs false
namespace Go.Proofs.Ytpcahneiinjdmaa
open Go Go.Sk
abbrev B := ByteArray
theorem wrap_nat {n : Int} (h0 : 0 ≤ n) (h1 : n ≤ 1407374883553280) : IntKind.i64.wrap n = n := by
  have e : IntKind.i64.wrap n = (if (n % 18446744073709551616 : Int) ≥ 9223372036854775808 then n % 18446744073709551616 - 18446744073709551616 else n % 18446744073709551616) := by
    unfold IntKind.wrap
    simp [IntKind.bits, IntKind.signed]
  rw [e]
  split <;> omega
theorem copy_mid {α : Type} (p q r ys : List α) (n k m : Nat) (hn : p.length = n) (hq : q.length = ys.length) (hk : ys.length ≤ k) (hm : m = ys.length) : List.take n (p ++ (q ++ r)) ++ List.take k ys ++ List.drop (n + m) (p ++ (q ++ r)) = p ++ (ys ++ r) := by
  subst hn
  subst hm
  rw [List.take_left, List.take_of_length_le hk, ← List.append_assoc p q r, show p.length + ys.length = (p ++ q).length by rw [List.length_append, hq], List.drop_left, List.append_assoc]
theorem insert_ab (a b sp ys : List B) (hy : 0 < ys.length) (hb : (a.length + b.length + ys.length) * 16 ≤ 140737488355328) : room_slices_Insert.f (a ++ b) sp ys a.length = some (a ++ ys ++ b) := by
  rw [room_slices_Insert.f_eq]
  have ea : List.append (a ++ b) sp = a ++ (b ++ sp) := by show (a ++ b) ++ sp = _; rw [List.append_assoc]
  have w0 : ((a ++ b).length : Int) = ((a.length + b.length : Nat) : Int) := by rw [List.length_append]
  have w1 : IntKind.i64.wrap (((a.length + b.length : Nat) : Int) + (ys.length : Int)) = ((a.length + b.length + ys.length : Nat) : Int) := by rw [wrap_nat (by omega) (by omega)]; omega
  have w2 : IntKind.i64.wrap (((a.length + b.length + ys.length : Nat) : Int) - (a.length : Int)) = ((b.length + ys.length : Nat) : Int) := by rw [wrap_nat (by omega) (by omega)]; omega
  have w3 : IntKind.i64.wrap ((a.length : Int) + (ys.length : Int)) = ((a.length + ys.length : Nat) : Int) := by rw [wrap_nat (by omega) (by omega)]; omega
  have y0 : (((ys.length : Nat) : Int) == 0) = false := beq_eq_false_iff_ne.2 (by omega)
  simp only [ea, w0, w1, w2, w3, y0, cond_false, Nat.sub_zero, Int.sub_zero, Int.toNat_natCast, Nat.zero_add, Int.toNat_sub, List.drop_zero]
  by_cases hb0 : b = []
  · subst hb0
    rw [show (((a.length : Nat) : Int) == ((a.length + [].length : Nat) : Int)) = true by simp, cond_true]
    simp only [List.length_nil, Nat.add_zero, List.append_nil, List.nil_append, List.length_append, List.take_left', List.take_left]
    simp only [← Bool.decide_and, cond_dec]
    by_cases hr : ys.length ≤ sp.length
    · repeat rw [if_pos (by simp <;> omega)]
    · rw [if_pos (by omega), if_pos (by omega), if_neg (by omega), if_pos (by omega)]
  · have hbl : 0 < b.length := List.length_pos_iff.2 hb0
    rw [show (((a.length : Nat) : Int) == ((a.length + b.length : Nat) : Int)) = false from beq_eq_false_iff_ne.2 (by omega), cond_false]
    simp only [← Bool.decide_and, cond_dec]
    rw [if_pos (by simp <;> omega)]
    by_cases hr : b.length + sp.length < b.length + ys.length
    · rw [if_pos (by simp <;> omega), if_pos (by simp <;> omega)]
      simp only [List.take_left]
      have hS : ∀ z : B, (a ++ List.replicate (b.length + ys.length) z).length = a.length + (b.length + ys.length) := fun z => by simp
      have hR : ∀ z : B, List.replicate (b.length + ys.length) z = List.replicate ys.length z ++ List.replicate b.length z := fun z => by rw [List.replicate_append_replicate, Nat.add_comm]
      have e2 : ∀ z : B, List.take a.length (a ++ List.replicate (b.length + ys.length) z) ++ List.take (b.length + ys.length) ys ++ List.drop (a.length + min ys.length (b.length + ys.length)) (a ++ List.replicate (b.length + ys.length) z) = a ++ (ys ++ List.replicate b.length z) := fun z => by
        rw [hR]
        exact copy_mid a _ _ ys _ _ _ rfl (by simp) (by omega) (by omega)
      have e2' := e2 ({ data := #[] } : ByteArray)
      have hS' := hS ({ data := #[] } : ByteArray)
      simp only [List.take_left] at e2'
      simp only [hS', Nat.add_sub_cancel_left, e2']
      have e3 : List.take b.length (List.drop a.length (a ++ (b ++ sp))) = b := by rw [List.drop_left, List.take_left]
      simp only [e3]
      have e5 : ∀ z : B, (a ++ (ys ++ List.replicate b.length z)).length = a.length + ys.length + b.length := fun z => by simp; omega
      have e5' := e5 ({ data := #[] } : ByteArray)
      simp only [e5', Nat.add_sub_cancel_left]
      have e6 : ∀ z : B, List.take (a.length + ys.length) (a ++ (ys ++ List.replicate b.length z)) ++ List.take b.length b ++ List.drop (a.length + ys.length + min b.length b.length) (a ++ (ys ++ List.replicate b.length z)) = a ++ (ys ++ b) := fun z => by
        have := copy_mid (a ++ ys) (List.replicate b.length z) [] b (a.length + ys.length) b.length (min b.length b.length) (by simp) (by simp) (Nat.le_refl _) (by omega)
        simpa using this
      have e6' := e6 ({ data := #[] } : ByteArray)
      simp only [e6']
      repeat rw [if_pos (by first | omega | (simp <;> omega))]
      congr 1
      simp
    · rw [if_neg (by simp <;> omega)]
      obtain ⟨s1, s2, rfl, hs1⟩ : ∃ s1 s2, sp = s1 ++ s2 ∧ s1.length = ys.length := ⟨sp.take ys.length, sp.drop ys.length, (List.take_append_drop _ _).symm, by rw [List.length_take]; omega⟩
      obtain ⟨c, hc, ec⟩ : ∃ c : List B, c.length = ys.length ∧ List.take (a.length + ys.length) (a ++ (b ++ (s1 ++ s2))) = a ++ c := ⟨(b ++ (s1 ++ s2)).take ys.length, by simp; omega, by rw [List.take_length_add_append]⟩
      have k1 : a.length + b.length + ys.length - a.length = b.length + ys.length := by omega
      have k2 : a.length + b.length + ys.length - (a.length + ys.length) = b.length := by omega
      have e1 : List.take (b.length + ys.length) (List.drop a.length (a ++ (b ++ (s1 ++ s2)))) = b ++ s1 := by
        rw [List.drop_left, List.take_length_add_append, ← hs1, List.take_left]
      have e2 : List.take b.length (b ++ s1) = b := List.take_left
      have e3 : List.drop (a.length + ys.length + min (b ++ s1).length b.length) (a ++ (b ++ (s1 ++ s2))) = s2 := by
        rw [show a.length + ys.length + min (b ++ s1).length b.length = a.length + (b.length + s1.length) by rw [List.length_append]; omega, List.drop_length_add_append, List.drop_length_add_append, List.drop_left]
      simp only [k1, k2, e1, e2, e3, ec]
      have eT : a ++ c ++ b ++ s2 = a ++ (c ++ (b ++ s2)) := by simp
      have e4 : List.take a.length (a ++ c ++ b ++ s2) ++ List.take (b.length + ys.length) ys ++ List.drop (a.length + min ys.length (b.length + ys.length)) (a ++ c ++ b ++ s2) = a ++ (ys ++ (b ++ s2)) := by
        rw [eT]
        exact copy_mid a c (b ++ s2) ys _ _ _ rfl hc (by omega) (by omega)
      simp only [e4]
      repeat rw [if_pos (by first | omega | (simp <;> omega))]
      congr 1
      rw [← List.append_assoc ys b s2, ← List.append_assoc a, show a.length + b.length + ys.length = (a ++ (ys ++ b)).length by simp; omega, List.take_left, List.append_assoc]
theorem insert_eq (xs sp ys : List B) (i : Int) (h0 : 0 ≤ i) (hi : i ≤ xs.length) (hy : 0 < ys.length) (hb : (xs.length + ys.length) * 16 ≤ 140737488355328) : room_slices_Insert.f xs sp ys i = some (xs.take i.toNat ++ ys ++ xs.drop i.toNat) := by
  have hl : (xs.take i.toNat).length = i.toNat := by rw [List.length_take]; omega
  have := insert_ab (xs.take i.toNat) (xs.drop i.toNat) sp ys hy (by rw [← List.length_append, List.take_append_drop]; exact hb)
  rw [List.take_append_drop, hl, Int.toNat_of_nonneg h0] at this
  exact this
end Go.Proofs.Ytpcahneiinjdmaa

/- The functions, as limits of the evaluator: printed by a program. -/
set_option linter.unusedVariables false
namespace Go.Proofs.Ytpcahneiinjdmaa
open Go Go.Sk

/-- slices.Clone[[]string,string] -/
noncomputable def chk_slices_Clone.f (b : Bool) (s : (List ByteArray)) : Option (List ByteArray) := callX Try.prog cfg0 32 [(.one (.chk b .str s))] [] ⟨[.one (.own .str)], 0⟩
/-- slices.Clone[[]skirmish/api.Player,skirmish/api.Player] -/
noncomputable def chk_slices_Clone_1.f (b : Bool) (s : (List PlayerT)) : Option (List PlayerT) := callX Try.prog cfg0 46 [(.one (.chk b cPlayer s))] [] ⟨[.one (.own cPlayer)], 0⟩
end Go.Proofs.Ytpcahneiinjdmaa

/- The functions' equations: printed by a program. -/
set_option linter.unusedVariables false
set_option maxRecDepth 100000
set_option maxHeartbeats 4000000
namespace Go.Proofs.Ytpcahneiinjdmaa
open Go Go.Sk

theorem chk_slices_Clone.f_eq (b : Bool) (s : (List ByteArray)) : chk_slices_Clone.f b s = (bif (b) then some ([]) else (bif (Decidable.decide ((0 + List.length s) * 16 ≤ 140737488355328)) then some ([] ++ s) else none)) := (lim_step _ _ _ _ _ _).trans (by kernel_rfl)
theorem chk_slices_Clone_1.f_eq (b : Bool) (s : (List PlayerT)) : chk_slices_Clone_1.f b s = (bif (b) then some ([]) else (bif (Decidable.decide ((0 + List.length s) * 64 ≤ 140737488355328)) then some ([] ++ s) else none)) := (lim_step _ _ _ _ _ _).trans (by kernel_rfl)
end Go.Proofs.Ytpcahneiinjdmaa

/- tech.sorted: what is told of it is so. -/
set_option linter.unusedSimpArgs false
set_option linter.unusedVariables false
set_option maxRecDepth 100000
set_option maxHeartbeats 4000000
namespace Go.Proofs.Ytpcahneiinjdmaa
open Go Go.Sk Go.Proofs
/-! ### the code, part by part -/
noncomputable def kB : Code := Try.f26.body.getD .skip
noncomputable def k0 : Code := sq1 kB
noncomputable def kB1 : Code := sq2 kB
noncomputable def k1 : Code := sq1 kB1
noncomputable def kB2 : Code := sq2 kB1
noncomputable def kM : Code := sq1 kB2
noncomputable def kT : Code := sq2 kB2
noncomputable def kR2 : Code := sq1 kM
noncomputable def kBlk : Code := sq2 kM
noncomputable def kLp : Code := lpOf (blkOf kBlk)
noncomputable def kR3 : Code := sq1 kLp
noncomputable def kL1 : Code := sq2 kLp
noncomputable def kC : Code := sq1 kL1
noncomputable def kBl1 : Code := sq2 kL1
noncomputable def kR4 : Code := sq1 (blkOf kBl1)
noncomputable def kR5 : Code := sq2 (blkOf kBl1)
theorem kB_eq : bodyOf Try.prog 26 = .seq k0 kB1 := by kernel_rfl
theorem kB1_eq : kB1 = .seq k1 kB2 := by kernel_rfl
theorem kB2_eq : kB2 = .seq kM kT := by kernel_rfl
theorem kM_eq : kM = .seq kR2 kBlk := by kernel_rfl
theorem kBlk_eq : kBlk = .block 0 (.loop kLp) := by kernel_rfl
theorem kLp_eq : kLp = .seq kR3 kL1 := by kernel_rfl
theorem kL1_eq : kL1 = .seq kC kBl1 := by kernel_rfl
theorem kC_eq : kC = .cond (.tmp 8) .skip (.exit 0) := by kernel_rfl
theorem kBl1_eq : kBl1 = .block 1 (.seq kR4 kR5) := by kernel_rfl
theorem kR2_eq : kR2 = .region 2 (opsOf kR2) false := by kernel_rfl
theorem kR3_eq : kR3 = .region 3 (opsOf kR3) false := by kernel_rfl
theorem kR4_eq : kR4 = .region 4 (opsOf kR4) false := by kernel_rfl
theorem o20 : ∃ o, (opsOf kR2)[0]? = some o ∧ o.guard = none ∧ o.dst = some 5 ∧ o.op = .move (.tmp 0) := ⟨_, rfl, rfl, rfl, rfl⟩
theorem o21 : ∃ o, (opsOf kR2)[1]? = some o ∧ o.guard = none ∧ o.dst = some 6 ∧ o.op = .range 63 (.tmp 5) := ⟨_, rfl, rfl, rfl, rfl⟩
theorem o30 : ∃ o, (opsOf kR3)[0]? = some o ∧ o.guard = none ∧ o.dst = some 7 ∧ o.op = .next (.tmp 6) false := ⟨_, rfl, rfl, rfl, rfl⟩
theorem o31 : ∃ o, (opsOf kR3)[1]? = some o ∧ o.guard = none ∧ o.dst = some 8 ∧ o.op = .extract (.tmp 7) 0 := ⟨_, rfl, rfl, rfl, rfl⟩
theorem o40 : ∃ o, (opsOf kR4)[0]? = some o ∧ o.guard = none ∧ o.dst = some 9 ∧ o.op = .entry (.tmp 6) := ⟨_, rfl, rfl, rfl, rfl⟩
theorem o41 : ∃ o, (opsOf kR4)[1]? = some o ∧ o.guard = none ∧ o.dst = some 10 ∧ o.op = .extract (.tmp 9) 0 := ⟨_, rfl, rfl, rfl, rfl⟩
theorem o42 : ∃ o, (opsOf kR4)[2]? = some o ∧ o.guard = none ∧ o.dst = some 4 ∧ o.op = .assign (.tmp 10) := ⟨_, rfl, rfl, rfl, rfl⟩
theorem n2 : (opsOf kR2).size = 2 := rfl
theorem n3 : (opsOf kR3).size = 2 := rfl
theorem n4 : (opsOf kR4).size = 3 := rfl

/-! ### states -/
abbrev kMap (es : List (ByteArray × Bool)) : Sk.Obj := .map .str .bool false es true
noncomputable def kS0 (es : List (ByteArray × Bool)) : St := ⟨mkE 18 [(0, .one (.osl 1))], [.ghost [.osl 1], kMap es]⟩
noncomputable def kS1 (es : List (ByteArray × Bool)) : St := ⟨mkE 18 [(0, .one (.osl 1)), (3, .one (.osl 2))], [.ghost [.osl 1], kMap es, .row .str []]⟩
abbrev kIt (r : Nat) : Value := .pointer (some ⟨r, 0, none⟩)
noncomputable def kSL (es : List (ByteArray × Bool)) (acc : List ByteArray) (r : Nat) : St := ⟨mkE 18 [(3, .one (.osl 2)), (6, .one (.cst (kIt r)))], [.ghost [.osl 1], kMap es, .row .str acc]⟩
noncomputable def kSK (es : List (ByteArray × Bool)) (acc : List ByteArray) (r : Nat) (k : ByteArray) : St := ⟨mkE 18 [(3, .one (.osl 2)), (4, .one (.str k)), (6, .one (.cst (kIt r)))], [.ghost [.osl 1], kMap es, .row .str acc]⟩
noncomputable def sortPrim (args : List V) (mem : List Sk.Obj) (ρ : RD) : Option ρ.El :=
  match args, mem, ρ with
  | [.one (.osl 1)], [.ghost [.osl 1], .row .str xs], ⟨[.one (.own .str)], 1⟩ => if xs.length < 4611686018427387904 then some (sortTexts xs) else none
  | _, _, _ => none
noncomputable def cfgS : Cfg := { own := fun _ => false, ref := fun f => match f with | 53 => .keep | _ => .pure, prim := fun f a m ρ => match f with | 53 => sortPrim a m ρ | _ => none }
abbrev kρ : RD := ⟨[.one (.own .str), .one (.map .str .bool false true)], 1⟩
theorem sortPrim_spec {args : List V} {mem : List Sk.Obj} {ρ : RD} {x : ρ.El} (h : sortPrim args mem ρ = some x) : FnSpec Try.prog 53 args mem ρ x := by
  unfold sortPrim at h
  split at h
  · rename_i xs
    split at h
    · rename_i hx
      cases h
      exact sortS_told (fun blk off cap zs w h1 h2 h3 => Try.slices_Sort_string blk off cap zs w h1 h2 h3) (fun p cap w => Try.slices_Sort_string_none p cap w) hx
    · cases h
  · cases h
theorem enters53 : Go.Sk.Enters Try.prog 53 := ⟨_, _, Try.func53, rfl, by kernel_rfl⟩
theorem primS : PrimOk Try.prog cfgS := by
  refine ⟨fun g vs m ρ x h => ?_, fun g h => ?_⟩
  · unfold cfgS at h
    simp only at h
    split at h
    · exact ⟨sortPrim_spec h, enters53⟩
    · cases h
  · unfold cfgS at h
    simp only at h
    split at h <;> cases h
theorem callS : CallOk Try.prog cfgS (fun _ _ _ _ => none) := callOk_none primS.2
theorem hmix : Try.prog.follows .mixedOrders = true := by kernel_rfl
theorem hnames : namesOk Try.prog = true := by kernel_rfl

theorem seg_a (es : List (ByteArray × Bool)) (leaf : List KI → St → Option Unit) : (seg Try.prog cfgS (fxOf Try.prog 26) segFuel [.code k0, .jn, .code kB1] (initS Try.prog 26 [.one (.osl 1)] [.ghost [.osl 1], kMap es])).interp (fun _ _ _ _ => none) leaf (fun _ _ => none) = leaf [.code kB1] (kS0 es) := by kernel_rfl
theorem seg_b (es : List (ByteArray × Bool)) (leaf : List KI → St → Option Unit) : (seg Try.prog cfgS (fxOf Try.prog 26) segFuel [.code k1, .jn, .code kB2] (kS0 es)).interp (fun _ _ _ _ => none) leaf (fun _ _ => none) = leaf [.code kB2] (kS1 es) := by kernel_rfl
theorem seg_c (es : List (ByteArray × Bool)) (acc : List ByteArray) (r : Nat) (k : ByteArray) (leaf : List KI → St → Option Unit) : (seg Try.prog cfgS (fxOf Try.prog 26) segFuel [.code kR5, .blk 1, .lp kLp, .blk 0, .code kT] (kSK es acc r k)).interp (fun _ _ _ _ => none) leaf (fun _ _ => none) =
    bif decide ((acc.length + 1) * 16 ≤ 140737488355328) then leaf [.lp kLp, .blk 0, .code kT] (kSL es (acc ++ [k]) r) else none := by kernel_rfl
theorem run_t (es : List (ByteArray × Bool)) (acc : List ByteArray) (r : Nat) : run Try.prog cfgS 1 26 kρ [.code kT] (kSL es acc r) =
    (orPrim cfgS (fun g vs m σ => run Try.prog cfgS 0 g σ (entry Try.prog g) (initS Try.prog g vs m)) 53 [.one (.osl 1)] [.ghost [.osl 1], .row .str acc] ⟨[.one (.own .str)], 1⟩).bind fun y => some (y, es) := by kernel_rfl

/-! ### the walk -/
theorem kExit : exitTo 0 [.code kBl1, .inLoop kLp, .inBlock 0, .code kT] = some [.code kT] := rfl
/-- the loop, from its head -/
theorem keys_loop {X : Fr} {es : List (ByteArray × Bool)} {Post : Value → World → Prop} (hsz : es.length * 16 ≤ 140737488355328) (r bm : Nat) (hgh : X.gh = .tuple #[.map (some bm)])
    (hend : ∀ (acc : List ByteArray), acc.Perm (es.map (·.1)) → ∀ {al : Nat → Prop} {tmps : Array Value} {w : World} {β : Nat → Value} {ok : Nat → Prop}, Inv X (kSL es acc r).env (kSL es acc r).mem al tmps w β ok → (∀ j, 3 ≤ j → ¬ al j) → Goes Try.prog 26 Post [.code kT] tmps w) :
    ∀ (n : Nat) (seen : Array Nat) (acc : List ByteArray), (leftOf (setArr es) seen).size = n → KeyMet es seen acc → ∀ {al : Nat → Prop} {tmps : Array Value} {w : World} {β : Nat → Value} {ok : Nat → Prop} (c0 : Nat),
      Inv X (kSL es acc r).env (kSL es acc r).mem al tmps w β ok → (∀ j, 3 ≤ j → ¬ al j) → Beside X (kSL es acc r).mem w β ok r → w.heap[r]? = some (.mapIter (some bm) es.length seen c0) → es.length ≤ c0 →
      Goes Try.prog 26 Post [.code kLp, .inLoop kLp, .inBlock 0, .code kT] tmps w := by
  intro n
  induction n using Nat.strongRecOn with
  | ind n ih =>
    intro seen acc hn hmet al tmps w β ok c0 hI hal hbe hr hc0
    obtain ⟨bm', g1, g2, g3, g4⟩ := hI.mapAt (es := es) rfl rfl
    have hbm : bm' = bm := by rw [hgh] at g1; simpa using g1.symm
    subst hbm
    have hsize : tmps.size = 18 := hI.size
    have h6 : tmps.getD 6 undef = kIt r := by
      have := (hI.env 6 (.one (.cst (kIt r))) rfl).one'
      generalize tmps.getD 6 undef = u at this
      cases this
      rfl
    have hold : ∀ x ∈ (setArr es).toList, x.born < es.length := fun x hx => by
      obtain ⟨k, hk, rfl⟩ := setArr_mem hx
      exact hk
    refine Goes.seq' kLp_eq (Goes.region' kR3_eq ?_)
    rw [n3]
    show wpOps _ _ _ [0, 1] _ _
    obtain ⟨o0, a1, a2, a3, a4⟩ := o30
    obtain ⟨o1, b1, b2, b3, b4⟩ := o31
    have s7 : 7 < tmps.size := by omega
    have s8 : ∀ u, 8 < (tmps.setIfInBounds 7 u).size := fun u => by simp [hsize]
    rcases run_next_at (P := Try.prog) w o0.type r bm' es.length c0 seen (setArr es) es.length hr g3 hold hc0 with ⟨hl0, hrun⟩ | ⟨e, he, w1, hw1, hrun⟩
    · refine wpOps_value a1 a2 (exec_next a4 (by rw [show (⟨tmps, []⟩ : Act).eval (.tmp 6) = kIt r from h6]; exact hrun)) ?_
      rw [a3]
      refine wpOps_value b1 b2 (exec_extract b4 (us := #[.bool false]) (v := .bool false) (getD_set_same s7 _) rfl) ?_
      rw [b3]
      refine wpOps_nil ⟨rfl, ?_⟩
      refine Goes.seq' kL1_eq (Goes.cond' kC_eq (t := false) (getD_set_same (s8 _) _) (Goes.exit' kExit ?_))
      have hI1 : Inv X (kSL es acc r).env (kSL es acc r).mem al (tmps.setIfInBounds 7 (.tuple #[.bool false])) w β ok := hI.put 7 (v := uv) (.one _ _ (.undef _))
      have hI2 : Inv X (kSL es acc r).env (kSL es acc r).mem al ((tmps.setIfInBounds 7 (.tuple #[.bool false])).setIfInBounds 8 (.bool false)) w β ok := hI1.put 8 (v := uv) (.one _ _ (.undef _))
      exact hend acc (hmet.done hl0) hI2 hal
    · obtain ⟨hem, hes⟩ := mem_left he
      obtain ⟨k, hk, rfl⟩ := setArr_mem hem
      have hmet' := hmet.push hk hes
      have hlen := hmet'.len
      rw [List.length_append] at hlen
      generalize hw2 : ChangeMaps.setBlock w1 r (.mapIter (some bm') es.length (seen.push k) es.length) = w2 at hrun
      have hsame : ∀ b, b ≠ r → w2.heap[b]? = w.heap[b]? := fun b hb => by
        rw [← hw2]
        have key : (w.heap.setIfInBounds r (.mapIter (some bm') es.length (seen.push k) es.length))[b]? = w.heap[b]? := by simp [Array.getElem?_setIfInBounds, Ne.symm hb]
        rcases hw1 with rfl | rfl <;> exact key
      have hsz2 : w2.heap.size = w.heap.size := by
        rw [← hw2]
        have key : (w.heap.setIfInBounds r (.mapIter (some bm') es.length (seen.push k) es.length)).size = w.heap.size := by simp
        rcases hw1 with rfl | rfl <;> exact key
      have hr2 : w2.heap[r]? = some (.mapIter (some bm') es.length (seen.push k) es.length) := by
        have := hbe.lt
        rw [← hw2]
        have key : (w.heap.setIfInBounds r (.mapIter (some bm') es.length (seen.push k) es.length))[r]? = some (.mapIter (some bm') es.length (seen.push k) es.length) := by simp [Array.getElem?_setIfInBounds, this]
        rcases hw1 with rfl | rfl <;> exact key
      have hos : w2.os = w.os := by rw [← hw2]; rcases hw1 with rfl | rfl <;> rfl
      have hout : w2.output = w.output := by rw [← hw2]; rcases hw1 with rfl | rfl <;> rfl
      have htape : w2.tape = w.tape := by rw [← hw2]; rcases hw1 with rfl | rfl <;> rfl
      have hbmr : bm' ≠ r := fun e => hbe.own 1 (e ▸ g4)
      have hb2 : w2.heap[bm']? = some (.map (setArr es) es.length) := (hsame bm' hbmr).trans g3
      have hent := run_entry_at (P := Try.prog) w2 r bm' es.length seen (setArr es) es.length _ hr2 hb2 hem (setArr_born es)
      have hJ : Inv X (kSL es acc r).env (kSL es acc r).mem al tmps w2 β ok := hI.beside hbe.new hbe.ok hbe.own (fun b hb _ => hsame b hb) (by omega) hos hout htape
      refine wpOps_value a1 a2 (exec_next a4 (by rw [show (⟨tmps, []⟩ : Act).eval (.tmp 6) = kIt r from h6]; exact hrun)) ?_
      rw [a3]
      refine wpOps_value b1 b2 (exec_extract b4 (us := #[.bool true, .string es[k].1, .bool es[k].2]) (v := .bool true) (getD_set_same s7 _) rfl) ?_
      rw [b3]
      refine wpOps_nil ⟨rfl, ?_⟩
      generalize hU7 : Value.tuple #[.bool true, .string es[k].1, .bool es[k].2] = U7
      have hJ1 : Inv X (kSL es acc r).env (kSL es acc r).mem al (tmps.setIfInBounds 7 U7) w2 β ok := hJ.put 7 (v := uv) (.one _ _ (.undef _))
      have hJ2 : Inv X (kSL es acc r).env (kSL es acc r).mem al ((tmps.setIfInBounds 7 U7).setIfInBounds 8 (.bool true)) w2 β ok := hJ1.put 8 (v := uv) (.one _ _ (.undef _))
      refine Goes.seq' kL1_eq (Goes.cond' kC_eq (t := true) (getD_set_same (s8 _) _) (Goes.skip' (Goes.block' kBl1_eq (Goes.seq' rfl (Goes.region' kR4_eq ?_)))))
      show wpOps _ _ _ (List.range (opsOf kR4).size) ⟨(tmps.setIfInBounds 7 U7).setIfInBounds 8 (.bool true), []⟩ _
      have hsT : ((tmps.setIfInBounds 7 U7).setIfInBounds 8 (.bool true)).size = 18 := by simp [hsize]
      have h6T : ((tmps.setIfInBounds 7 U7).setIfInBounds 8 (.bool true)).getD 6 undef = kIt r := by rw [getD_set_other (by omega), getD_set_other (by omega), h6]
      generalize ((tmps.setIfInBounds 7 U7).setIfInBounds 8 (.bool true)) = T at hsT h6T hJ2 ⊢
      have s9 : 9 < T.size := by omega
      rw [n4]
      show wpOps _ _ _ [0, 1, 2] _ _
      obtain ⟨p0, c1, c2, c3, c4⟩ := o40
      obtain ⟨p1, d1, d2, d3, d4⟩ := o41
      obtain ⟨p2, e1, e2, e3, e4⟩ := o42
      refine wpOps_value c1 c2 (exec_entry c4 (by rw [show (⟨T, []⟩ : Act).eval (.tmp 6) = kIt r from h6T]; exact hent)) ?_
      rw [c3]
      refine wpOps_value d1 d2 (exec_extract d4 (us := #[.string es[k].1, .bool es[k].2]) (v := .string es[k].1) (getD_set_same s9 _) rfl) ?_
      rw [d3]
      refine wpOps_value e1 e2 (exec_assign e4) ?_
      rw [e3]
      refine wpOps_nil ⟨rfl, ?_⟩
      have ev10 : ((⟨T, []⟩ : Act).put (some 9) (.tuple #[.string es[k].1, .bool es[k].2]) |>.put (some 10) (.string es[k].1)).eval (.tmp 10) = .string es[k].1 := getD_set_same (by simp [Act.put, hsT]) _
      rw [ev10]
      have hJ3 : Inv X (kSL es acc r).env (kSL es acc r).mem al (T.setIfInBounds 9 (.tuple #[.string es[k].1, .bool es[k].2])) w2 β ok := hJ2.put 9 (v := uv) (.one _ _ (.undef _))
      have hJ4 : Inv X (kSL es acc r).env (kSL es acc r).mem al ((T.setIfInBounds 9 (.tuple #[.string es[k].1, .bool es[k].2])).setIfInBounds 10 (.string es[k].1)) w2 β ok := hJ3.put 10 (v := uv) (.one _ _ (.undef _))
      have hJ5 : Inv X (kSK es acc r es[k].1).env (kSK es acc r es[k].1).mem al (((T.setIfInBounds 9 (.tuple #[.string es[k].1, .bool es[k].2])).setIfInBounds 10 (.string es[k].1)).setIfInBounds 4 (.string es[k].1)) w2 β ok := hJ4.put 4 (v := .one (.str es[k].1)) (.one _ _ (.str _))
      have hbe2 : Beside X (kSK es acc r es[k].1).mem w2 β ok r := ⟨hbe.new, by have := hbe.lt; omega, hbe.ok, hbe.own⟩
      refine to_goes (ks := [.code kR5, .blk 1, .lp kLp, .blk 0, .code kT]) (X := X.here (kSK es acc r es[k].1).mem β w2 ok) hmix callS Try.func26 (ks' := [.lp kLp, .blk 0, .code kT]) (s' := kSL es (acc ++ [es[k].1]) r) ?_ hJ5.rebase hal fun hK hal' => ?_
      · rw [seg_c, decide_eq_true (by simp at hlen; omega)]
        exact atEnd_self
      · obtain ⟨hbe3, hr3⟩ := hbe2.stays hK
        exact ih _ (hn ▸ left_shrinks (setArr es) seen _ he) _ _ rfl hmet' es.length (hJ5.unbase hK) hal' hbe3 (hr3.trans hr2) (Nat.le_refl _)

theorem keys_told (es : List (ByteArray × Bool)) (hsz : es.length * 16 ≤ 140737488355328) : FnSpec Try.prog 26 [.one (.osl 1)] [.ghost [.osl 1], kMap es] kρ (sortTexts (es.map fun e => e.1), es) := by
  intro X al us β ok h hal
  refine enter_goes Try.func26 rfl ?_
  show Goes Try.prog 26 _ [.code (bodyOf Try.prog 26)] (us ++ Array.replicate (Try.f26.ntmps - us.size) undef) X.w0
  refine Goes.seq' kB_eq ?_
  refine to_goes (ks := [.code k0, .jn, .code kB1]) (X := X) hmix callS Try.func26 (ks' := [.code kB1]) (s := initS Try.prog 26 [.one (.osl 1)] [.ghost [.osl 1], kMap es]) (s' := kS0 es) (by rw [seg_a]; exact atEnd_self) (h.pad 18) hal fun hI0 hal0 => ?_
  show Goes Try.prog 26 _ [.code kB1] _ _
  refine Goes.seq' kB1_eq ?_
  refine to_goes (ks := [.code k1, .jn, .code kB2]) (X := X) hmix callS Try.func26 (ks' := [.code kB2]) (s := kS0 es) (s' := kS1 es) (by rw [seg_b]; exact atEnd_self) hI0 hal0 fun {al tmps w β ok} hI hal => ?_
  show Goes Try.prog 26 _ [.code kB2] _ _
  refine Goes.seq' kB2_eq (Goes.seq' kM_eq (Goes.region' kR2_eq ?_))
  rw [n2]
  show wpOps _ _ _ [0, 1] _ _
  obtain ⟨bm, g1, g2, g3, g4⟩ := hI.mapAt (es := es) rfl rfl
  obtain ⟨o0, a1, a2, a3, a4⟩ := o20
  obtain ⟨o1, b1, b2, b3, b4⟩ := o21
  have hsize : tmps.size = 18 := hI.size
  have h0 : (⟨tmps, []⟩ : Act).eval (.tmp 0) = .map (some bm) := by
    have := (hI.env 0 (.one (.osl 1)) rfl).one'
    show tmps.getD 0 undef = _
    generalize tmps.getD 0 undef = u at this
    cases this with
    | osl _ _ _ hk _ => rw [← g2]; exact hk (by simp [kS1, Obj.kd])
  refine wpOps_value a1 a2 (exec_move a4) ?_
  rw [a3, h0]
  have h5 : ((⟨tmps, []⟩ : Act).put (some 5) (.map (some bm))).eval (.tmp 5) = .map (some bm) := getD_set_same (show 5 < tmps.size by omega) _
  refine wpOps_value b1 b2 (exec_range b4 (by rw [h5]; exact run_range_map w 63 9 4 bm (setArr es) es.length Try.underlying63 g3)) ?_
  rw [b3]
  refine wpOps_nil ⟨rfl, ?_⟩
  obtain ⟨hN, hB⟩ := hI.newBeside (.mapIter (some bm) es.length #[] es.length)
  refine Goes.block' kBlk_eq (Goes.loop' rfl ?_)
  have hN1 := hN.put 5 (v := uv) (cv := .map (some bm)) (.one _ _ (.undef _))
  have hN2 := hN1.put 6 (v := .one (.cst (kIt w.heap.size))) (cv := kIt w.heap.size) (.one _ _ (.cst _ rfl))
  have hN3 : Inv X (kSL es [] w.heap.size).env (kSL es [] w.heap.size).mem al ((tmps.setIfInBounds 5 (.map (some bm))).setIfInBounds 6 (kIt w.heap.size)) (w.alloc (.mapIter (some bm) es.length #[] es.length)) β ok := by
    refine hN2.forget rfl fun t v ht => ?_
    match t with
    | 0 => exact .inr (by simpa [kSL, mkE, mkE.go] using ht.symm)
    | 1 | 2 | 3 | 4 | 5 | 6 | 7 | 8 | 9 | 10 | 11 | 12 | 13 | 14 | 15 | 16 | 17 => exact .inl ht
    | n + 18 => exact absurd ht (by simp [kSL, mkE, mkE.go])
  refine keys_loop hsz w.heap.size bm g1 (fun acc hp {al tmps w2 β ok} hI hal => ?_) _ #[] [] rfl (KeyMet.nil es) es.length hN3 hal hB (heap_alloc_at _ _) (Nat.le_refl _)
  have hl := hp.length_eq
  rw [List.length_map] at hl
  have hx : run Try.prog cfgS 1 26 kρ [.code kT] (kSL es acc w.heap.size) = some (sortTexts (es.map fun e => e.1), es) := by
    rw [run_t]
    have e1 : cfgS.prim 53 [.one (.osl 1)] [.ghost [.osl 1], .row .str acc] ⟨[.one (.own .str)], 1⟩ = some (sortTexts acc) := if_pos (by omega)
    unfold orPrim
    rw [e1, sortTexts_perm hp]
    rfl
  exact run_sound hmix hnames primS 1 26 kρ [.code kT] (kSL es acc w.heap.size) _ hx Try.func26 hI hal
theorem keysPrim_spec {args : List V} {mem : List Sk.Obj} {ρ : RD} {x : ρ.El} (h : keysPrim args mem ρ = some x) : FnSpec Try.prog 26 args mem ρ x := by
  unfold keysPrim at h
  split at h
  · rename_i es t t'
    split at h
    · rename_i hx
      obtain ⟨rfl, rfl, hs⟩ := hx
      cases h
      exact keys_told es hs
    · cases h
  · cases h
theorem enters26 : Go.Sk.Enters Try.prog 26 := ⟨_, _, Try.func26, rfl, by kernel_rfl⟩
end Go.Proofs.Ytpcahneiinjdmaa

/- What is told of functions is so. -/
namespace Go.Proofs.Ytpcahneiinjdmaa
open Go Go.Sk
theorem overlaps_fn : ApartFn Try.prog 71 := ⟨Try.f71, 38, 4, 9, 1, Try.func71, by kernel_rfl, by kernel_rfl, by kernel_rfl, by kernel_rfl, Try.underlying38, fun w => by kernel_rfl⟩
theorem apart_fns (g : FuncId) (h : refB g = .apart) : ApartFn Try.prog g := by
  unfold refB at h
  split at h <;> first | (cases h; done) | exact overlaps_fn
theorem prim_ok0 : PrimOk Try.prog cfg0 := ⟨fun g vs m ρ x h => (by cases h), apart_fns⟩
theorem clone_out {α : Type} (b : Bool) (xs : List α) (k : Nat) (hb : b = true → xs = []) (hg : xs.length * k ≤ 140737488355328) : (bif b then some [] else (bif decide ((0 + xs.length) * k ≤ 140737488355328) then some ([] ++ xs) else none)) = some xs := by
  cases b with
  | true => rw [hb rfl]; rfl
  | false => rw [Nat.zero_add, decide_eq_true hg]; rfl
theorem prim_ok : PrimOk Try.prog cfg := by
  refine ⟨fun g vs m ρ x h => ?_, apart_fns⟩
  unfold cfg at h
  simp only [primB] at h
  split at h
  · exact ⟨keysPrim_spec h, enters26⟩
  · refine ⟨clonePrim_spec (fun b xs hb hg => ?_) h, _, _, Try.func32, rfl, by kernel_rfl⟩
    have e : callF Try.prog cfg0 32 [.one (.chk b .str xs)] [] ⟨[.one (.own .str)], 0⟩ = some xs := (chk_slices_Clone.f_eq b xs).trans (clone_out b xs 16 hb hg)
    exact (callF_sound (C := cfg0) (by kernel_rfl) (by kernel_rfl) prim_ok0 e).1
  · refine ⟨clonePrim_spec (fun b xs hb hg => ?_) h, _, _, Try.func46, rfl, by kernel_rfl⟩
    have e : callF Try.prog cfg0 46 [.one (.chk b cPlayer xs)] [] ⟨[.one (.own cPlayer)], 0⟩ = some xs := (chk_slices_Clone_1.f_eq b xs).trans (clone_out b xs 64 hb hg)
    exact (callF_sound (C := cfg0) (by kernel_rfl) (by kernel_rfl) prim_ok0 e).1
  · refine ⟨insPrim_spec (fun xs ys sp i h0 hi hy hb => ?_) h, _, _, Try.func49, rfl, by kernel_rfl⟩
    have e := insert_eq xs sp ys i h0 hi hy hb
    exact (callF_sound (C := cfg0) (by kernel_rfl) (by kernel_rfl) prim_ok0 e).1
  · cases h
end Go.Proofs.Ytpcahneiinjdmaa
