/- A law's row, out of what the evaluator comes to. -/
import Derived.Test.YtgamdchlgikaiaaSkZC
set_option linter.unusedSimpArgs false
set_option linter.unusedVariables false
set_option linter.unusedSectionVars false
namespace Go.Sk
open Go Go.RowKit

theorem RelC.bool_inv' {w : World} {ok rd : Nat → Prop} {β : Nat → Value} {kd : Nat → KD} {al : Nat → Prop} {b : Bool} {v : Value} (h : RelC w ok rd β kd al (.bool b) v) : v = .bool b := by cases h; rfl
@[reducible] def ElL : List Ty → Type
  | [] => Unit
  | t :: r => El t × ElL r
def FitsL : (ts : List Ty) → ElL ts → Prop
  | [], _ => True
  | t :: r, x => Fits t x.1 ∧ FitsL r x.2
def argV (g : Option Bool) (c : Ty) (x : El c) : V :=
  match g with
  | some true => .agg (enc c x)
  | some false => (match enc c x with | [v] => .one v | _ => uv)
  | none => uv
def argVs' (P : Program) : List TypeId → (codes : List Ty) → ElL codes → List V
  | t :: ts, c :: cs, x => argV (aggAt P t) c x.1 :: argVs' P ts cs x.2
  | _, _, _ => []

section
variable {H : Type} {enc' : TypeId × Value → H} {P : Program} {W W' : World} {β : Nat → Value}

theorem open_one {t : TypeId} {c : Ty} {v : Value} {d : DataW H} {ps : List MemPlace} {r : _root_.Go.Reach} {base : Nat} (hl : layOk P 12 t = true) (hc : tyAt P t = some c) (hval : Value.okWide P W r base t v) (hd : DataW.Trod enc' P W 0 (fun _ => true) true t v d ps) :
    ∃ x : El c, Fits c x ∧ RelV W (fun b => b < W.heap.size) (fun _ => False) β noKd noAl (argV (aggAt P t) c x) v := by
  obtain ⟨fuel, hf⟩ := hd
  obtain ⟨x, h1, h2⟩ := open_ty 12 t c hl hc fuel _ _ hf
  refine ⟨x, h2, ?_⟩
  have hrel : RelL W (fun b => b < W.heap.size) (fun _ => False) β noKd noAl (enc c x) v.cells.toList := rel_enc h1
  cases hu : P.underlying t with
  | none => unfold layOk at hl; rw [hu] at hl; cases hl
  | some D =>
    have one : aggAt P t = some false → v.cells = #[v] → RelV W (fun b => b < W.heap.size) (fun _ => False) β noKd noAl (argV (aggAt P t) c x) v := by
      intro hg hv
      rw [hv] at hrel
      rw [hg]
      unfold argV
      simp only
      split
      · rename_i u he
        rw [he] at hrel
        exact .one _ _ (hrel.2 0 u v rfl rfl)
      · exact .one _ _ (.undef _)
    unfold Value.okWide at hval
    rw [hu] at hval
    cases D <;> simp only at hval <;> (try (unfold layOk at hl; rw [hu] at hl; cases hl; done))
    case struct fs =>
      obtain ⟨cs, rfl, _⟩ := hval
      have hg : aggAt P t = some true := by unfold aggAt; rw [hu]
      rw [hg]
      have := RelV.ofL hrel
      simpa [argV, Value.cells] using this
    all_goals
      refine one (by unfold aggAt; rw [hu]) ?_
      cases v <;> first | rfl | (unfold Cell.okWide at hval; rw [hu] at hval; unfold Cell.ok at hval; rw [hu] at hval; exact hval.elim) | skip

theorem open_all : ∀ (ts : List TypeId) (codes : List Ty) (vs : List Value) (ds : List (DataW H)) (ps : List MemPlace) {r : _root_.Go.Reach} {base : Nat}, ts.map (tyAt P) = codes.map some → ts.all (layOk P 12) = true → DataW.TrodAll enc' P W 0 (fun _ => true) true ts vs ds ps →
    (∀ (j : Nat) t v, ts[j]? = some t → vs[j]? = some v → Value.okWide P W r base t v) → vs.length = ts.length ∧ ds.length = ts.length ∧ ∃ xs : ElL codes, FitsL codes xs ∧ (argVs' P ts codes xs).length = vs.length ∧
      ∀ (j : Nat) a u, (argVs' P ts codes xs)[j]? = some a → vs[j]? = some u → RelV W (fun b => b < W.heap.size) (fun _ => False) β noKd noAl a u
  | [], codes, vs, ds, ps, r, base, hc, hl, hA, hval => by
    cases codes with
    | cons => simp at hc
    | nil =>
      obtain ⟨rfl, rfl, rfl⟩ := Go.ChangeShapes.trodAll_nil hA
      exact ⟨rfl, rfl, (), trivial, rfl, fun j a u h => by simp [argVs'] at h⟩
  | t :: ts, codes, vs, ds, ps, r, base, hc, hl, hA, hval => by
    cases codes with
    | nil => simp at hc
    | cons c cs =>
      simp only [List.map_cons, List.cons.injEq] at hc
      simp only [List.all_cons, Bool.and_eq_true] at hl
      obtain ⟨v, vs1, d, ds1, p, q, rfl, rfl, rfl, h1, h2⟩ := Go.ChangeShapes.trodAll_cons hA
      obtain ⟨x, g1, g2⟩ := open_one (β := β) hl.1 hc.1 (hval 0 t v rfl rfl) h1
      obtain ⟨e1, e2, xs, g3, g4, g5⟩ := open_all ts cs vs1 ds1 q hc.2 hl.2 h2 fun j t v hj hv => hval (j + 1) t v (by simpa using hj) (by simpa using hv)
      refine ⟨by simp [e1], by simp [e2], (x, xs), ⟨g1, g3⟩, by simp [argVs', g4], fun j a u hj hu => ?_⟩
      cases j with
      | zero =>
        simp [argVs'] at hj hu
        subst hj
        subst hu
        exact g2
      | succ j => exact g5 j a u (by simpa [argVs'] using hj) (by simpa using hu)

theorem back_all (hlaid : laidOutB P = true) (hb : Below W.heap.size W W') : ∀ (ts : List TypeId) (vs : List Value) (ds : List (DataW H)) (ps : List MemPlace), (∀ t ∈ ts, P.readableRec t = true ∧ t < P.types.size) → DataW.TrodAll enc' P W 0 (fun _ => true) true ts vs ds ps →
    DataW.TrodAll enc' P W' 0 (fun b => decide (b < W.heap.size)) true ts vs ds ps
  | [], vs, ds, ps, _, hA => by
    obtain ⟨rfl, rfl, rfl⟩ := Go.ChangeShapes.trodAll_nil hA
    exact hA
  | t :: ts, vs, ds, ps, hr, hA => by
    obtain ⟨v, vs1, d, ds1, p, q, rfl, rfl, rfl, h1, h2⟩ := Go.ChangeShapes.trodAll_cons hA
    have hlt : ∀ x ∈ p, x.block < W.heap.size := by
      obtain ⟨m, hm⟩ := h1
      exact DataW.trod_lt m _ _ _ hm
    exact trodAll_cons_mk (Below.trod hlaid (hr t (by simp)).1 (hr t (by simp)).2 h1 hb hlt) (back_all hlaid hb ts vs1 ds1 q (fun t ht => hr t (by simp [ht])) h2)

theorem law_contract {C : Cfg} (hlaid : laidOutB P = true) (hm : P.follows .mixedOrders = true) (hN : namesOk P = true) (hP : PrimOk P C) {f : FuncId} {fn : Func} {tb : TypeId} (hrt : fn.resultTypes = #[tb]) (htb : P.underlying tb = some .bool)
    (hread : ∀ t ∈ fn.params.toList, P.readableRec t = true ∧ t < P.types.size) {codes : List Ty} (hc : fn.params.toList.map (tyAt P) = codes.map some) (hl : fn.params.toList.all (layOk P 12) = true)
    {spec : ChangeSpec} (hvars : spec.vars = []) (hspec : ∀ ds : List (DataW H), ds.length = fn.params.toList.length → spec.fn H ds = { results := [.lit (.bool true)], args := ds })
    (hlaw : ∀ xs : ElL codes, FitsL codes xs → callF P C f (argVs' P fn.params.toList codes xs) [] ⟨[.one (.ty .bool)], 0⟩ = some true)
    {base : Nat} {args : Array Value} {ds gs : List (DataW H)} {before : List MemPlace} (hval : ∀ (j : Nat) t v, fn.params[j]? = some t → args[j]? = some v → Value.okWide P W .any base t v)
    (hW : DataW.Whole enc' P fn.params.toList spec.vars false W args.toList ds gs before) :
    Calls P f args W fun e W' => ∃ v, e = .returned v ∧ spec.post enc' P fn false true false false W args v W' := by
  have hW' := hW
  obtain ⟨p, q, hA, hV, rfl, hfz, hnd⟩ := hW
  rw [hvars] at hV
  obtain ⟨rfl, rfl⟩ := Go.ChangeShapes.trodVars_none hV
  obtain ⟨e1, e2, xs, h1, h2, h3⟩ := open_all (β := fun _ => undef) fn.params.toList codes args.toList ds p hc hl hA (fun j t v hj hv => hval j t v (by simpa using hj) (by simpa using hv))
  have hsp := (callF_sound hm hN hP (hlaw xs h1)).1.pure W (fun b => b < W.heap.size) (fun _ => False) (fun _ => undef) args (fun _ h => h) (fun _ h => h.elim) (by simpa using h2.symm) h3
  refine hsp.mono fun e W' he => ?_
  obtain ⟨v, ok', rfl, hI⟩ := he
  obtain ⟨β', h4, h5⟩ := hI 0
  have hv : v = .bool true := by
    have : RelV W' ok' (fun _ => False) β' (kds (wrs [] (numbered 0 []))) (fun i => 0 ≤ i ∧ i < 0 + 0) (.one (.bool true)) v := h5
    exact this.one'.bool_inv' 
  subst hv
  have bel : Below W.heap.size W W' := ⟨h4.os, h4.tape, h4.out, h4.grow, fun k hk => h4.keep k hk fun h => h⟩
  refine ⟨_, rfl, _, _, _, [], p, [], hW', ?_, ?_, ?_, bel.frame _, fun h => by cases h⟩
  · rw [List.append_nil, hspec ds e2, hrt]
    exact Go.ChangeShapes.trodAll_mk1 (shut_bool htb _)
  · rw [List.append_nil, hspec ds e2]
    exact back_all hlaid bel fn.params.toList args.toList ds _ hread hA
  · rw [List.append_nil, hspec ds e2, hvars]
    rfl
end
end Go.Sk
