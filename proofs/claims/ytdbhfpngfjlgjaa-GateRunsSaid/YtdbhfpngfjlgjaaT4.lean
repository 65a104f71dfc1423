/- The evaluator is sound: what it comes to, the function comes to. -/
import Derived.Test.YtdbhfpngfjlgjaaT3
import Derived.Test.YtdbhfpngfjlgjaaT1
import Derived.IntWalk
import Derived.Laws.Strings
import Derived.WalkKit
import Derived.ProofKit
import Derived.OpenShut
import Derived.ShutString
import Derived.ChangeOld
import Derived.Below
import Derived.SizedLaws
import Derived.Carry
import Derived.Deep.Slices
set_option linter.unusedSimpArgs false
set_option linter.unusedVariables false
set_option linter.unusedSectionVars false
namespace Go.Sk
open Go

def namesOk (P : Program) : Bool := P.funcs.toList.all fun fn => fn.body.isNone || !(fn.name == "runtime.NumGoroutine")
theorem namesOk_spec {P : Program} (h : namesOk P = true) {g : FuncId} {fn : Func} {c : Code} (hf : P.funcs[g]? = some fn) (hb : fn.body = some c) : (fn.name == "runtime.NumGoroutine") = false := by
  have := List.all_eq_true.1 h fn (by simpa using Array.mem_of_getElem? hf)
  rw [hb] at this
  simpa using this

theorem padV_spec : ∀ (n : Nat) (vs : List V), (padV n vs).length = max n vs.length ∧ ∀ (i : Nat) v, (padV n vs)[i]? = some v → vs[i]? = some v ∨ v = uv
  | 0, vs => ⟨by simp [padV], fun i v h => .inl h⟩
  | n + 1, [] => by
    obtain ⟨h1, h2⟩ := padV_spec n []
    refine ⟨by simp [padV, h1], fun i v h => ?_⟩
    cases i with
    | zero => simp [padV] at h; exact .inr h.symm
    | succ i => exact (h2 i v (by simpa [padV] using h)).imp (fun h => by simp at h) id
  | n + 1, x :: r => by
    obtain ⟨h1, h2⟩ := padV_spec n r
    refine ⟨by simp [padV, h1], fun i v h => ?_⟩
    cases i with
    | zero => simp [padV] at h; exact .inl (by simp [h])
    | succ i => exact (h2 i v (by simpa [padV] using h)).imp (fun h => by simpa using h) id

section
variable {P : Program} {C : Cfg}
/-- a function is entered -/
theorem Inv.pad {X : Fr} {args : List V} {mem : List Obj} {al : Nat → Prop} {us : Array Value} {w : World} {β : Nat → Value} {ok : Nat → Prop} (h : Inv X args mem al us w β ok) (n : Nat) :
    Inv X (padV n args) mem al (us ++ Array.replicate (n - us.size) undef) w β ok := by
  obtain ⟨h1, h2⟩ := padV_spec n args
  have hl := h.size
  exact { h with
    size := by rw [h1]; simp; omega
    env := fun t v ht => by
      rcases h2 t v ht with h0 | rfl
      · have hlt : t < args.length := (List.getElem?_eq_some_iff.1 h0).1
        have hlt2 : t < us.size := by omega
        have e : (us ++ Array.replicate (n - us.size) undef).getD t undef = us.getD t undef := by
          rw [Array.getD_eq_getD_getElem?, Array.getD_eq_getD_getElem?, Array.getElem?_append_left hlt2]
        rw [e]
        exact h.env t v h0
      · exact .one _ _ (.undef _) }

theorem bodyOf_some {g : FuncId} {n : Nat} {ρ : RD} {s : St} {x : ρ.El} (h : run P C n g ρ (entry P g) s = some x) : ∃ fn c, P.funcs[g]? = some fn ∧ fn.body = some c := by
  cases n with
  | zero => cases h
  | succ n =>
    cases hf : P.funcs[g]? with
    | none =>
      have : bodyOf P g = .refuse "" := by unfold bodyOf; rw [hf]
      unfold run entry at h
      rw [this] at h
      cases h
    | some fn =>
      cases hb : fn.body with
      | some c => exact ⟨fn, c, rfl, hb⟩
      | none =>
        have : bodyOf P g = .refuse "" := by unfold bodyOf; rw [hf]; simp only [hb]
        unfold run entry at h
        rw [this] at h
        cases h

theorem enter_goes {g : FuncId} {fn : Func} {c : Code} (hf : P.funcs[g]? = some fn) (hb : fn.body = some c) {us : Array Value} {w : World} {Post : Value → World → Prop}
    (h : Goes P g Post (start (entry P g)) (us ++ Array.replicate (fn.ntmps - us.size) undef) w) : Calls P g us w fun e w' => ∃ v, e = .returned v ∧ Post v w' := by
  intro cs
  obtain ⟨v, w', fr, h1, h2, h3, h4⟩ := h cs
  have hbody : bodyOf P g = c := by unfold bodyOf; rw [hf]; simp only [hb]
  have henter : Frame.enter P g us .normal = (fr0 g).at ⟨us ++ Array.replicate (fn.ntmps - us.size) undef, []⟩ (start (entry P g)) := by
    unfold entry
    rw [hbody]
    simp [Frame.enter, Frame.at, hf, hb, fr0, start, items]
  exact ⟨.returned v, w', fr, ⟨v, rfl, h1⟩, by rw [henter]; exact h2, h3, h4⟩

/-- what is told of functions is so -/
def PrimOk (P : Program) (C : Cfg) : Prop := (∀ (g : FuncId) (as : List V) (m : List Obj) (ρ : RD) (x : ρ.El), C.prim g as m ρ = some x → FnSpec P g as m ρ x ∧ Enters P g) ∧ ∀ g, C.ref g = .apart → ApartFn P g

theorem run_sound (hm : P.follows .mixedOrders = true) (hN : namesOk P = true) (hP : PrimOk P C) : ∀ (n : Nat) (f : FuncId) (ρ : RD) (ks : List KI) (s : St) (x : ρ.El), run P C n f ρ ks s = some x →
    ∀ {fn : Func}, P.funcs[f]? = some fn → ∀ {X : Fr} {al : Nat → Prop} {tmps : Array Value} {w : World} {β : Nat → Value} {ok : Nat → Prop}, Inv X s.env s.mem al tmps w β ok → (∀ j, s.mem.length ≤ j → ¬ al j) →
      Goes P f (PostM X ρ.vals ρ.roots x) (start ks) tmps w := by
  intro n
  induction n with
  | zero => intro f ρ ks s x h; cases h
  | succ n ih =>
    intro f ρ ks s x h fn hf X al tmps w β ok hI hal
    have hcall : CallOk P C (orPrim C fun g as m σ => run P C n g σ (entry P g) (initS P g as m)) := by
      refine ⟨?_, hP.2⟩
      intro g as m σ y hy
      unfold orPrim at hy
      split at hy
      · rename_i z hz
        simp at hy
        subst hy
        exact hP.1 g as m σ z hz
      · obtain ⟨fg, c, hfg, hbg⟩ := bodyOf_some hy
        refine ⟨fun X al us β ok hI hal => ?_, fg, c, hfg, hbg, namesOk_spec hN hfg hbg⟩
        have hnt : (fxOf P g).ntmps = fg.ntmps := by unfold fxOf; rw [hfg]
        exact enter_goes hfg hbg (ih g σ (entry P g) (initS P g as m) y hy hfg (X := X) (al := al) (w := X.w0) (β := β) (ok := ok) (by unfold initS; rw [hnt]; exact hI.pad _) hal)
    unfold run at h
    have main := fun ks' h' => seg_goes (C := C) (X := X) (PostR := fun x => PostM X ρ.vals ρ.roots x) (fin := finR ρ) hm hcall hf
      (fun ks s x hx al tmps w β ok hI hal => ih f ρ ks s x hx hf hI hal)
      (fun s x hx al tmps w β ok hI hal => by
        unfold finT at hx
        split at hx
        · rename_i vs hvs
          have hres : (fxOf P f).results = fn.results.toList := by unfold fxOf; rw [hf]
          rw [hres] at hvs
          obtain ⟨v, h1, cvs, hc, h2⟩ := results_run (P := P) hI fn hvs
          obtain ⟨vs', m', al', β', _, hI', hl', hr', hx'⟩ := settleVs_sound vs s.mem _ cvs hI hal hc.1 h2 hx
          exact ⟨v, h1, fin_post hI' (hc.rel (hl'.trans hc.1) hr') hx'⟩
        · cases hx) segFuel ks' s x h' hI hal
    cases ks with
    | nil => exact main [] h
    | cons k0 k =>
      cases k0 with
      | lp b => exact main (.code b :: .lp b :: k) h
      | _ => exact main _ h

/-- what a function is told to come to, it comes to -/
theorem callF_sound (hm : P.follows .mixedOrders = true) (hN : namesOk P = true) (hP : PrimOk P C) {f : FuncId} {args : List V} {m : List Obj} {ρ : RD} {x : ρ.El} (h : callF P C f args m ρ = some x) : FnSpec P f args m ρ x ∧ Enters P f := by
  obtain ⟨n, hn⟩ := run_of_lim h
  obtain ⟨fg, c, hfg, hbg⟩ := bodyOf_some hn
  refine ⟨fun X al us β ok hI hal => ?_, fg, c, hfg, hbg, namesOk_spec hN hfg hbg⟩
  have hnt : (fxOf P f).ntmps = fg.ntmps := by unfold fxOf; rw [hfg]
  exact enter_goes hfg hbg (run_sound hm hN hP n f ρ (entry P f) (initS P f args m) x hn hfg (X := X) (al := al) (w := X.w0) (β := β) (ok := ok) (by unfold initS; rw [hnt]; exact hI.pad _) hal)
end
end Go.Sk

/- What is told of slices.Insert at an owned row: from what it comes to wherever the row's capacity is known. -/
set_option linter.unusedSimpArgs false
set_option linter.unusedVariables false
namespace Go.Sk
open Go Go.RowKit

section
variable {P : Program} {g : FuncId}
/-- a row of the call's own is handed over; told for each room that it may have -/
theorem FnSpec.room {t u : Ty} {xs : List (El t)} {ys : List (El u)} {k : IntKind} {i : Int} {ρ : RD} {x : ρ.El}
    (h : ∀ sp : List (El t), FnSpec P g [.one (.ovw 1 0 xs.length), .one (.int k i), .one (.osl 2)] [.ghost [], .full t (xs ++ sp), .row u ys] ρ x) :
    FnSpec P g [.one (.osl 1), .one (.int k i), .one (.osl 2)] [.ghost [], .row t xs, .row u ys] ρ x := by
  intro X al us β ok hI hal
  have hob := hI.obj 1
  obtain ⟨A, c, hb, hob⟩ := (show ObjRel X.w0 ok X.rd β (kds [.ghost [], .row t xs, .row u ys]) al 1 (.row t xs) from hob)
  obtain ⟨sp, hsp, hfull⟩ : ∃ sp : List (El t), xs.length + sp.length = c ∧ (xs ++ sp = [] ∨ ∃ b o arr T, A = some ⟨b, o, none⟩ ∧ X.w0.heap[b]? = some (.cells arr T (0, 0)) ∧ o + (xs ++ sp).length * t.size ≤ arr.size ∧ Lies X.w0 ok t (xs ++ sp) (xs ++ sp).length o arr) := by
    rcases hob with ⟨rfl, rfl⟩ | ⟨b, o, arr, T, rfl, hh, h0, hle, hs, sp, h1, h2⟩
    · exact ⟨[], rfl, .inl rfl⟩
    · refine ⟨sp, h1, .inr ⟨b, o, arr, T, rfl, hh, by rw [List.length_append, h1]; exact hs, [], by simp, fun q y hq => h2 q y ?_⟩⟩
      rw [List.append_nil] at hq
      exact hq
  have hlc : (xs ++ sp).length = c := by rw [List.length_append]; exact hsp
  let β' : Nat → Value := fun j => if j = 1 then .slice A c c else β j
  have hown : ∀ j, ownB ([Obj.ghost [], .full t (xs ++ sp), .row u ys].getD j .dead) (β' j) = ownB ([Obj.ghost [], .row t xs, .row u ys].getD j .dead) (β j) := fun j => by
    match j with
    | 0 => rfl
    | 1 =>
      show ownB (.full t (xs ++ sp)) (.slice A c c) = ownB (.row t xs) (β 1)
      rw [hb]
      cases A <;> rfl
    | 2 => rfl
    | j + 3 => rfl
  have hkd : ∀ j, kds [.ghost [], .full t (xs ++ sp), .row u ys] j = kds [.ghost [], .row t xs, .row u ys] j := fun j => by
    match j with
    | 0 => rfl
    | 1 => rfl
    | 2 => rfl
    | j + 3 => rfl
  refine h sp X al us β' ok { hI with env := fun q v hq => ?_, obj := fun j => ?_, len := fun j hj => hI.len j fun e => hj ((hkd j).trans e), inj := fun i j b hi hj => hI.inj i j b (by rw [← hown]; exact hi) (by rw [← hown]; exact hj), apart := fun j b hj => hI.apart j b (by rw [← hown]; exact hj), apartR := fun j b hj => hI.apartR j b (by rw [← hown]; exact hj), gh := fun j hj => ?_, ownOld := fun j b hj => hI.ownOld j b (by rw [← hown]; exact hj) } hal
  · match q, hq with
    | 0, hq =>
      cases hq
      have h1 := (hI.env 0 _ rfl).one'
      have hv : us.getD 0 undef = β 1 := by
        generalize us.getD 0 undef = v at h1
        cases h1 with
        | osl _ _ hi hk _ => exact hk (by simp [Obj.kd])
      refine .one _ _ (.ovw _ _ _ _ (hI.len 1 (by simp [Obj.kd])) (fun t' ht' => ?_) (by rw [hv, hb]; rfl))
      cases ht'
      refine ⟨A, c, c, A, rfl, by rw [hv, hb]; rfl, by omega, fun b o he _ => ?_⟩
      rw [he]
      simp
    | 1, hq =>
      cases hq
      have h1 := (hI.env 1 _ rfl).one'
      generalize us.getD 1 undef = v at h1 ⊢
      cases h1
      exact .one _ _ (.int _ _)
    | 2, hq =>
      cases hq
      have h1 := (hI.env 2 _ rfl).one'
      generalize us.getD 2 undef = v at h1 ⊢
      cases h1 with
      | osl _ _ hi hk h1 => exact .one _ _ (.osl _ _ hi hk h1)
    | q + 3, hq => simp at hq
  · match j with
    | 0 =>
      have := hI.obj 0
      obtain ⟨us', h1, h2⟩ := (show ObjRel X.w0 ok X.rd β (kds [.ghost [], .row t xs, .row u ys]) al 0 (.ghost []) from this)
      exact ⟨us', h1, h2.1, fun j c u hj => by simp at hj⟩
    | 1 => exact ⟨A, show Value.slice A c c = _ by rw [hlc], hfull⟩
    | 2 => exact hI.obj 2
    | j + 3 => exact hI.obj (j + 3)
  · match j, hj with
    | 0, hj => exact hI.gh 0 rfl
    | 1, hj => cases hj
    | 2, hj => cases hj
    | j + 3, hj => cases hj
end

/-- what is told of slices.Insert -/
def insPrim (bt : Ty) (bytes : Nat) (args : List V) (mem : List Obj) (ρ : RD) : Option ρ.El :=
  match args, mem, ρ with
  | [.one (.osl 1), .one (.int .i64 i), .one (.osl 2)], [.ghost [], .row t xs, .row u ys], ⟨[.one (.ty (.slice r))], 0⟩ =>
    match decS bt t xs, decS bt u ys, Ty.eq? bt r with
    | some xs, some ys, some ⟨h⟩ => if 0 ≤ i ∧ i ≤ xs.length ∧ 0 < ys.length ∧ (xs.length + ys.length) * bytes ≤ 140737488355328 then some (h ▸ (xs.take i.toNat ++ ys ++ xs.drop i.toNat)) else none
    | _, _, _ => none
  | _, _, _ => none
theorem insPrim_spec {P : Program} {g : FuncId} {bt : Ty} {bytes : Nat} (h : ∀ (xs ys sp : List (El bt)) (i : Int), 0 ≤ i → i ≤ xs.length → 0 < ys.length → (xs.length + ys.length) * bytes ≤ 140737488355328 →
      FnSpec P g [.one (.ovw 1 0 xs.length), .one (.int .i64 i), .one (.osl 2)] [.ghost [], .full bt (xs ++ sp), .row bt ys] ⟨[.one (.ty (.slice bt))], 0⟩ (xs.take i.toNat ++ ys ++ xs.drop i.toNat))
    {args : List V} {mem : List Obj} {ρ : RD} {x : ρ.El} (hx : insPrim bt bytes args mem ρ = some x) : FnSpec P g args mem ρ x := by
  unfold insPrim at hx
  split at hx
  · rename_i i t xs u ys r
    split at hx
    · rename_i xs' ys' hr h1 h2 h3
      obtain ⟨rfl, rfl⟩ := decS_spec h1
      obtain ⟨rfl, rfl⟩ := decS_spec h2
      subst hr
      split at hx
      · rename_i hg
        cases hx
        exact FnSpec.room fun sp => h _ _ sp i hg.1 hg.2.1 hg.2.2.1 hg.2.2.2
      · cases hx
    · cases hx
  · cases hx
end Go.Sk

/- What is told of slices.Clone: from what it comes to at a slice of which it is known whether it is nil. -/
set_option linter.unusedSimpArgs false
set_option linter.unusedVariables false
namespace Go.Sk
open Go Go.RowKit

section
variable {P : Program} {g : FuncId}
/-- whatever is so of a nil slice and of one that is not -/
theorem FnSpec.chk {t : Ty} {xs : List (El t)} {ρ : RD} {x : ρ.El} (h : ∀ b, (b = true → xs = []) → FnSpec P g [.one (.chk b t xs)] [] ρ x) : FnSpec P g [.one (.slc t xs)] [] ρ x := by
  intro X al us β ok hI hal
  have h1 := (hI.env 0 _ rfl).one'
  obtain ⟨A, c, hv, hc, hrow⟩ : ∃ A c, us.getD 0 undef = .slice A xs.length c ∧ xs.length ≤ c ∧ RowAt X.w0 ok (RepE X.w0 ok t) t.size A xs := by
    generalize us.getD 0 undef = v at h1 ⊢
    cases h1
    exact ⟨_, _, rfl, by assumption, by assumption⟩
  refine h A.isNone (fun hb => ?_) X al us β ok { hI with env := fun q v hq => ?_ } hal
  · rcases hrow with h0 | ⟨b, o, rfl, _⟩
    · exact h0
    · cases hb
  · match q, hq with
    | 0, hq =>
      cases hq
      rw [hv]
      exact .one _ _ (.chk _ t xs A c rfl hc hrow)
    | q + 1, hq => simp at hq
end

/-- what is told of slices.Clone -/
def clonePrim (bt : Ty) (bytes : Nat) (args : List V) (mem : List Obj) (ρ : RD) : Option ρ.El :=
  match args, mem, ρ with
  | [.one (.slc t xs)], [], ⟨[.one (.own r)], 0⟩ =>
    match decS bt t xs, Ty.eq? bt r with
    | some xs, some ⟨h⟩ => if xs.length * bytes ≤ 140737488355328 then some (h ▸ xs) else none
    | _, _ => none
  | _, _, _ => none
theorem clonePrim_spec {P : Program} {g : FuncId} {bt : Ty} {bytes : Nat} (h : ∀ (b : Bool) (xs : List (El bt)), (b = true → xs = []) → xs.length * bytes ≤ 140737488355328 → FnSpec P g [.one (.chk b bt xs)] [] ⟨[.one (.own bt)], 0⟩ xs)
    {args : List V} {mem : List Obj} {ρ : RD} {x : ρ.El} (hx : clonePrim bt bytes args mem ρ = some x) : FnSpec P g args mem ρ x := by
  unfold clonePrim at hx
  split at hx
  · rename_i t xs r
    split at hx
    · rename_i xs' hr h1 h2
      obtain ⟨rfl, rfl⟩ := decS_spec h1
      subst hr
      split at hx
      · rename_i hg
        cases hx
        exact FnSpec.chk fun b hb => h b _ hb hg
      · cases hx
    · cases hx
  · cases hx
end Go.Sk

/- Plain words for the equations: integers that do not wrap, indexes, tests. -/
set_option linter.unusedSimpArgs false
set_option linter.unusedVariables false
namespace Go.Sk
open Go

theorem wr_in {x : Int} (h0 : -9223372036854775808 ≤ x) (h1 : x ≤ 9223372036854775807) : IntKind.i64.wrap x = x := by
  exact IntWalk.i64_in _ ⟨h0, h1⟩
theorem wr_succ {k n : Nat} (h : k < n) (hn : n ≤ 9223372036854775807) : IntKind.i64.wrap ((k : Int) + 1) = ((k + 1 : Nat) : Int) := by
  rw [wr_in (by omega) (by omega)]; rfl
theorem idx_nat {α : Type} (xs : List α) (k : Nat) : idx xs (k : Int) = xs[k]? := by
  unfold idx; rw [if_pos (by omega)]; rfl
theorem cond_dec {α : Type} {p : Prop} [Decidable p] (x y : α) : (bif decide p then x else y) = if p then x else y := by
  by_cases h : p <;> simp [h]
theorem min_if (a b : Nat) : (if (b : Int) < (a : Int) then (b : Int) else (a : Int)) = ((min a b : Nat) : Int) := by
  by_cases h : b < a
  · rw [if_pos (by omega)]; congr 1; omega
  · rw [if_neg (by omega)]; congr 1; omega
theorem dec_in {n : Nat} {k : Nat} (h : k < n) : (decide (0 ≤ (k : Int)) && decide ((k : Int) < (n : Int))) = true := by
  simp [h]
theorem lt_true {k n : Nat} (h : k < n) : decide ((k : Int) < (n : Int)) = true := by simp [h]
theorem lt_false {k n : Nat} (h : n ≤ k) : decide ((k : Int) < (n : Int)) = false := by simp; omega

/-! ### loops over lists -/
section
variable {α β γ : Type}
/-- a loop over a list, with a state and early ends -/
def foldE (step : β → α → Option (γ ⊕ β)) (fin : β → Option γ) : List α → β → Option γ
  | [], b => fin b
  | x :: r, b => (step b x).bind fun q => match q with | .inl g => some g | .inr b' => foldE step fin r b'
theorem loopE (xs : List α) (step : β → α → Option (γ ⊕ β)) (fin : β → Option γ) (F : β → Int → Option γ)
    (hF : ∀ b (k : Nat) (hk : k < xs.length), F b k = (step b xs[k]).bind fun q => match q with | .inl g => some g | .inr b' => F b' ((k + 1 : Nat) : Int))
    (hE : ∀ b, F b xs.length = fin b) (b : β) : F b 0 = foldE step fin xs b := by
  have key : ∀ m k b, k + m = xs.length → F b k = foldE step fin (xs.drop k) b := by
    intro m
    induction m with
    | zero => intro k b hk; rw [List.drop_of_length_le (by omega), show k = xs.length by omega, hE]; rfl
    | succ m ih =>
      intro k b hk
      have hlt : k < xs.length := by omega
      rw [hF b k hlt, List.drop_eq_getElem_cons hlt]
      simp only [foldE]
      congr 1
      funext q
      cases q with
      | inl g => rfl
      | inr b' => exact ih (k + 1) b' (by omega)
  simpa using key xs.length 0 b (by omega)
/-- the same, where a round looks at its number -/
theorem loopI (xs : List α) (step : β → α × Nat → Option (γ ⊕ β)) (fin : β → Option γ) (F : β → Int → Option γ)
    (hF : ∀ b (k : Nat) (hk : k < xs.length), F b k = (step b (xs[k], k)).bind fun q => match q with | .inl g => some g | .inr b' => F b' ((k + 1 : Nat) : Int))
    (hE : ∀ b, F b xs.length = fin b) (b : β) : F b 0 = foldE step fin xs.zipIdx b :=
  loopE xs.zipIdx step fin F (fun b k hk => by
    have hk' : k < xs.length := by simpa using hk
    rw [hF b k hk']
    simp) (fun b => by rw [List.length_zipIdx]; exact hE b) b
/-- no early end: a fold -/
theorem foldE_foldl (f : β → α → β) (fin : β → Option γ) : ∀ (xs : List α) (b : β), foldE (fun b x => some (.inr (f b x))) fin xs b = fin (xs.foldl f b)
  | [], b => rfl
  | x :: r, b => by simp only [foldE, Option.bind_some, List.foldl_cons]; exact foldE_foldl f fin r _
theorem foldE_congr {step step' : β → α → Option (γ ⊕ β)} {fin : β → Option γ} : ∀ {xs : List α} (h : ∀ b x, x ∈ xs → step b x = step' b x) (b : β), foldE step fin xs b = foldE step' fin xs b
  | [], _, b => rfl
  | x :: r, h, b => by
    simp only [foldE]
    rw [h b x (by simp)]
    congr 1
    funext q
    cases q with
    | inl g => rfl
    | inr b' => exact foldE_congr (fun b y hy => h b y (by simp [hy])) b'
/-- the first element that a test holds of -/
theorem foldE_find (p : α → Bool) (g : Nat → γ) (d : Option γ) : ∀ (xs : List α) (n : Nat), foldE (fun (b : Unit) (q : α × Nat) => some (bif p q.1 then .inl (g q.2) else .inr b)) (fun _ => d) (xs.zipIdx n) () = match xs.findIdx? p with | some k => some (g (n + k)) | none => d
  | [], n => rfl
  | x :: r, n => by
    simp only [List.zipIdx_cons, foldE, Option.bind_some, List.findIdx?_cons]
    cases h : p x with
    | true => simp
    | false =>
      simp only [cond_false]
      rw [foldE_find p g d r (n + 1)]
      cases r.findIdx? p <;> simp
      congr 1
      omega
theorem find_findIdx (p : α → Bool) : ∀ (xs : List α), xs.find? p = (xs.findIdx? p).bind fun k => xs[k]?
  | [] => rfl
  | x :: r => by
    rw [List.find?_cons, List.findIdx?_cons]
    cases h : p x with
    | true => simp
    | false =>
      simp only [Bool.false_eq_true, if_false]
      rw [find_findIdx p r]
      cases r.findIdx? p <;> simp
/-- the first element, itself handed on -/
theorem foldE_find1 (p : α → Bool) (g : α → γ) (d : Option γ) : ∀ (xs : List α), foldE (fun (b : Unit) (x : α) => some (bif p x then .inl (g x) else .inr b)) (fun _ => d) xs () = match xs.find? p with | some x => some (g x) | none => d
  | [] => rfl
  | x :: r => by
    simp only [foldE, Option.bind_some, List.find?_cons]
    cases h : p x with
    | true => simp
    | false => simp only [cond_false]; exact foldE_find1 p g d r
/-- what a test holds of is collected -/
theorem foldE_filter {δ : Type} (p : α → Bool) (f : α → δ) (c M : Nat) (fin : List δ → Option γ) : ∀ (xs : List α) (acc : List δ), (acc.length + xs.length) * c ≤ M →
    foldE (fun acc x => bif p x then (bif decide ((acc.length + 1) * c ≤ M) then some (.inr (acc ++ [f x])) else none) else some (.inr acc)) fin xs acc = fin (acc ++ (xs.filter p).map f)
  | [], acc, _ => by simp [foldE]
  | x :: r, acc, h => by
    simp only [foldE, List.filter_cons]
    have h1 : (acc.length + 1) * c ≤ M := Nat.le_trans (Nat.mul_le_mul_right c (by simp)) h
    cases hp : p x with
    | false =>
      simp only [cond_false, Option.bind_some, Bool.false_eq_true, if_false]
      exact foldE_filter p f c M fin r acc (Nat.le_trans (Nat.mul_le_mul_right c (by simp)) h)
    | true =>
      simp only [cond_true, h1, decide_true, Option.bind_some, if_true, List.map_cons]
      rw [foldE_filter p f c M fin r (acc ++ [f x]) (by simp at h ⊢; rw [show acc.length + 1 + r.length = acc.length + (r.length + 1) by omega]; exact h)]
      simp
end
end Go.Sk

/- Loops that count, as plain functions of a list. -/
set_option linter.unusedVariables false
namespace Go.Sk

section
variable {α β γ : Type}
/-- the first number that a test holds of ends it -/
theorem cnt_loop (n : Nat) (F : Int → Option γ) (bad : Nat → Bool) (r : γ) (d : Option γ) (hF : ∀ k : Nat, k < n → F k = bif bad k then some r else F ((k + 1 : Nat) : Int)) (hE : F n = d) :
    F 0 = bif (List.range n).any bad then some r else d := by
  have key : ∀ m k : Nat, k + m = n → F k = bif (List.range' k m).any bad then some r else d := by
    intro m
    induction m with
    | zero => intro k hk; rw [show k = n by omega, hE]; rfl
    | succ m ih =>
      intro k hk
      rw [hF k (by omega), List.range'_succ, List.any_cons]
      cases bad k with
      | true => rfl
      | false => exact ih (k + 1) (by omega)
  have := key n 0 (by omega)
  rw [List.range_eq_range']
  exact this
/-- the first element that a test holds of ends it -/
theorem any_loop (xs : List α) (F : Int → Option γ) (bad : α → Bool) (r : γ) (d : Option γ) (hF : ∀ (k : Nat) (hk : k < xs.length), F k = bif bad xs[k] then some r else F ((k + 1 : Nat) : Int)) (hE : F xs.length = d) :
    F 0 = bif xs.any bad then some r else d := by
  have key : ∀ m k : Nat, k + m = xs.length → F k = bif (xs.drop k).any bad then some r else d := by
    intro m
    induction m with
    | zero => intro k hk; rw [show k = xs.length by omega, hE, List.drop_length]; rfl
    | succ m ih =>
      intro k hk
      have hlt : k < xs.length := by omega
      rw [hF k hlt, List.drop_eq_getElem_cons hlt, List.any_cons]
      cases bad xs[k] with
      | true => rfl
      | false => exact ih (k + 1) (by omega)
  exact key xs.length 0 (by omega)
def found (g : Nat → γ) (d : Option γ) : Option Nat → Option γ
  | some k => some (g k)
  | none => d
/-- a place in a list, or -1 -/
def pos1 : Option Nat → Int
  | some k => k
  | none => -1
theorem found_pos (o : Option Nat) : found (fun k => (k : Int)) (some (-1)) o = some (pos1 o) := by cases o <;> rfl
/-- the number of the first element that a test holds of -/
theorem find_loop (xs : List α) (F : Int → Option γ) (p : α → Bool) (g : Nat → γ) (d : Option γ) (hF : ∀ (k : Nat) (hk : k < xs.length), F k = bif p xs[k] then some (g k) else F ((k + 1 : Nat) : Int)) (hE : F xs.length = d) :
    F 0 = found g d (xs.findIdx? p) := by
  have key : ∀ m k : Nat, k + m = xs.length → F k = found (fun j => g (k + j)) d ((xs.drop k).findIdx? p) := by
    intro m
    induction m with
    | zero => intro k hk; rw [show k = xs.length by omega, hE, List.drop_length]; rfl
    | succ m ih =>
      intro k hk
      have hlt : k < xs.length := by omega
      rw [hF k hlt, List.drop_eq_getElem_cons hlt, List.findIdx?_cons]
      cases p xs[k] with
      | true => rfl
      | false =>
        rw [cond_false, ih (k + 1) (by omega)]
        cases (xs.drop (k + 1)).findIdx? p with
        | none => rfl
        | some j => show some (g (k + 1 + j)) = some (g (k + (j + 1))); rw [show k + 1 + j = k + (j + 1) by omega]
  have := key xs.length 0 (by omega)
  simpa using this
/-- a state that each element changes -/
theorem fold_loop (xs : List α) (F : β → Int → Option γ) (f : β → α → β) (inv : β → Nat → Prop) (fin : β → Option γ) (hF : ∀ (b : β) (k : Nat) (hk : k < xs.length), inv b k → F b k = F (f b xs[k]) ((k + 1 : Nat) : Int))
    (hI : ∀ (b : β) (k : Nat) (hk : k < xs.length), inv b k → inv (f b xs[k]) (k + 1)) (hE : ∀ b, inv b xs.length → F b xs.length = fin b) (b : β) (h0 : inv b 0) : F b 0 = fin (xs.foldl f b) := by
  have key : ∀ m k b, k + m = xs.length → inv b k → F b k = fin ((xs.drop k).foldl f b) := by
    intro m
    induction m with
    | zero =>
      intro k b hk hi
      have e : k = xs.length := by omega
      subst e
      rw [hE _ hi, List.drop_length]; rfl
    | succ m ih =>
      intro k b hk hi
      have hlt : k < xs.length := by omega
      rw [hF b k hlt hi, List.drop_eq_getElem_cons hlt, List.foldl_cons]
      exact ih (k + 1) _ (by omega) (hI b k hlt hi)
  exact key xs.length 0 b (by omega) h0
/-- what a test holds of is collected -/
theorem filter_loop (xs : List α) (F : List β → Int → Option γ) (p : α → Bool) (g : α → β) (fin : List β → Option γ) (hF : ∀ (acc : List β) (k : Nat) (hk : k < xs.length), acc.length ≤ k → F acc k = bif p xs[k] then F (acc ++ [g xs[k]]) ((k + 1 : Nat) : Int) else F acc ((k + 1 : Nat) : Int))
    (hE : ∀ acc, acc.length ≤ xs.length → F acc xs.length = fin acc) : F [] 0 = fin ((xs.filter p).map g) := by
  have e : ∀ (l : List α) (acc : List β), l.foldl (fun acc x => if p x then acc ++ [g x] else acc) acc = acc ++ (l.filter p).map g := by
    intro l
    induction l with
    | nil => intro acc; simp
    | cons a r ih =>
      intro acc
      rw [List.foldl_cons, ih, List.filter_cons]
      cases h : p a <;> simp
  have := fold_loop xs F (fun acc x => if p x then acc ++ [g x] else acc) (fun acc k => acc.length ≤ k) fin (fun acc k hk hi => by
    rw [hF acc k hk hi]
    cases h : p xs[k] <;> simp) (fun acc k hk hi => by
    cases h : p xs[k] <;> simp <;> omega) hE [] (Nat.zero_le _)
  rw [this, e]
  simp
/-- each element is taken over -/
theorem map_loop (xs : List α) (F : List β → Int → Option γ) (g : α → β) (fin : List β → Option γ) (hF : ∀ (acc : List β) (k : Nat) (hk : k < xs.length), acc.length = k → F acc k = F (acc ++ [g xs[k]]) ((k + 1 : Nat) : Int))
    (hE : ∀ acc, acc.length = xs.length → F acc xs.length = fin acc) : F [] 0 = fin (xs.map g) := by
  have e : ∀ (l : List α) (acc : List β), l.foldl (fun acc x => acc ++ [g x]) acc = acc ++ l.map g := by
    intro l
    induction l with
    | nil => intro acc; simp
    | cons a r ih => intro acc; rw [List.foldl_cons, ih]; simp
  have := fold_loop xs F (fun acc x => acc ++ [g x]) (fun acc k => acc.length = k) fin hF (fun acc k hk hi => by simp [hi]) hE [] rfl
  rw [this, e]
  simp
/-- downward -/
theorem down_loop (xs : List α) (F : β → Int → Option γ) (f : β → α → β) (fin : β → Option γ) (hF : ∀ (b : β) (k : Nat) (hk : k < xs.length), F b k = F (f b xs[k]) ((k : Int) - 1)) (hE : ∀ b, F b (-1) = fin b) (b : β) : F b ((xs.length : Int) - 1) = fin (xs.reverse.foldl f b) := by
  have key : ∀ m b, m ≤ xs.length → F b ((m : Int) - 1) = fin ((xs.take m).reverse.foldl f b) := by
    intro m
    induction m with
    | zero => intro b _; simpa using hE b
    | succ m ih =>
      intro b hm
      have hlt : m < xs.length := by omega
      have e : xs.take (m + 1) = xs.take m ++ [xs[m]] := by rw [List.take_add_one, List.getElem?_eq_getElem hlt]; rfl
      rw [show (((m + 1 : Nat) : Int) - 1) = (m : Int) by omega, hF b m hlt, ih _ (by omega), e, List.reverse_append]
      rfl
  have := key xs.length b (Nat.le_refl _)
  rwa [List.take_length] at this
/-- lists, compared element by element -/
theorem equal_loop (a b : List α) (hl : a.length = b.length) (F : Int → Option Bool) (hF : ∀ (k : Nat) (ha : k < a.length) (hb : k < b.length), (a[k] ≠ b[k] → F k = some false) ∧ (a[k] = b[k] → F k = F ((k + 1 : Nat) : Int))) (hE : F a.length = some true) :
    ∃ r, F 0 = some r ∧ (r = true ↔ a = b) := by
  have key : ∀ m k : Nat, k + m = a.length → ∃ r, F k = some r ∧ (r = true ↔ a.drop k = b.drop k) := by
    intro m
    induction m with
    | zero =>
      intro k hk
      refine ⟨true, by rw [show k = a.length by omega, hE], ?_⟩
      rw [List.drop_of_length_le (by omega), List.drop_of_length_le (by omega)]
      simp
    | succ m ih =>
      intro k hk
      have ha : k < a.length := by omega
      have hb : k < b.length := by omega
      rw [List.drop_eq_getElem_cons ha, List.drop_eq_getElem_cons hb]
      by_cases h : a[k] = b[k]
      · obtain ⟨r, h1, h2⟩ := ih (k + 1) (by omega)
        exact ⟨r, by rw [(hF k ha hb).2 h, h1], by rw [h2, h]; simp only [List.cons.injEq, true_and]⟩
      · exact ⟨false, (hF k ha hb).1 h, by simp only [List.cons.injEq, h, false_and, Bool.false_eq_true]⟩
  obtain ⟨r, h1, h2⟩ := key a.length 0 (by omega)
  exact ⟨r, h1, by simpa using h2⟩
theorem findIdx_ge (xs : List α) (p : α → Bool) : decide (pos1 (xs.findIdx? p) ≥ 0) = xs.any p := by
  induction xs with
  | nil => rfl
  | cons a r ih =>
    rw [List.findIdx?_cons, List.any_cons]
    cases h : p a with
    | true => rfl
    | false =>
      simp only [Bool.false_eq_true, if_false, Bool.false_or]
      rw [← ih]
      cases r.findIdx? p with
      | none => rfl
      | some k => exact (decide_eq_true (by show ((k + 1 : Nat) : Int) ≥ 0; omega)).trans (decide_eq_true (by show ((k : Nat) : Int) ≥ 0; omega)).symm
end
end Go.Sk

/- Texts, tests that meet again, decided equalities. -/
set_option linter.unusedVariables false
namespace Go.Sk
theorem toList_inj {a b : ByteArray} (h : a.toList = b.toList) : a = b := by
  rw [ByteArray.toList_eq, ByteArray.toList_eq] at h
  exact ByteArray.ext (Array.toList_inj.1 h)
theorem toList_beq (a b : ByteArray) : (a.toList == b.toList) = decide (a = b) := by
  by_cases h : a = b
  · rw [h, decide_eq_true rfl]; exact beq_self_eq_true _
  · rw [decide_eq_false h]; exact beq_eq_false_iff_ne.2 fun e => h (toList_inj e)
theorem size_zero {s : ByteArray} : s = { data := #[] } ↔ s.size = 0 := by
  constructor
  · intro h; rw [h]; rfl
  · intro h
    obtain ⟨d⟩ := s
    have hd : d.size = 0 := h
    rw [Array.eq_empty_of_size_eq_zero hd]
theorem empty_iff (s : ByteArray) : (ByteArray.toList s == ByteArray.toList { data := #[] }) = decide (s.size = 0) := by
  rw [toList_beq]
  exact decide_eq_decide.2 size_zero
theorem byteAt_nat (s : ByteArray) (k : Nat) (hk : k < s.size) : byteAt s (k : Int) = some (s[k].toNat : Int) := by
  unfold byteAt
  rw [if_pos (by omega), Int.toNat_natCast, getElem?_pos s k hk]
  rfl
theorem dec_le (a b : Int) : decide (a ≤ b) = !decide (b < a) := by
  by_cases h : a ≤ b
  · rw [decide_eq_true h, decide_eq_false (by omega)]; rfl
  · rw [decide_eq_false h, decide_eq_true (by omega)]; rfl
theorem bne_beq {α : Type} [BEq α] (a b : α) : (a != b) = !(a == b) := rfl
theorem c1 (a b : Bool) : (bif a then some b else some false) = some (a && b) := by cases a <;> rfl
theorem c2 (a b : Bool) : (bif a then some true else some b) = some (a || b) := by cases a <;> rfl
theorem c3 (a x y : Bool) : (bif a then some y else some (x && y)) = some ((a || x) && y) := by cases a <;> cases x <;> rfl
theorem c4 (a b : Bool) : (bif a then some false else some b) = some (!a && b) := by cases a <;> rfl
theorem some_iff {r : Bool} {p : Prop} [Decidable p] (h : r = true ↔ p) : some r = some (decide p) := by
  congr 1
  cases r with
  | true => exact (decide_eq_true (h.1 rfl)).symm
  | false => exact (decide_eq_false fun hp => by cases h.2 hp).symm
theorem len_ne {α β : Type} (a : List α) (b : List β) : (((a.length : Int) != (b.length : Int)) = true ↔ a.length ≠ b.length) := by
  simp only [bne_iff_ne, ne_eq]
  omega
theorem len_eq {α β : Type} {a : List α} {b : List β} (h : ((a.length : Int) != (b.length : Int)) = false) : a.length = b.length := by
  have := len_ne a b
  rw [h] at this
  simpa using this
theorem cast_beq (n m : Nat) : (((n : Nat) : Int) == ((m : Nat) : Int)) = (n == m) := by
  by_cases h : n = m
  · simp [h]
  · rw [beq_eq_false_iff_ne.2 h, beq_eq_false_iff_ne.2 (by omega)]
theorem beq_dec {α : Type} [DecidableEq α] (a b : α) : (a == b) = decide (a = b) := rfl
theorem bne_dec {α : Type} [DecidableEq α] (a b : α) : (a != b) = !decide (a = b) := rfl
theorem prev_idx {α : Type} (l : List α) (k : Nat) (hk : k < l.length) (hl : l.length ≤ 9223372036854775807) (h0 : 0 < k) : idx l (IntKind.i64.wrap ((k : Int) - 1)) = some (l[k - 1]'(by omega)) := by
  rw [wr_in (by omega) (by omega), show (k : Int) - 1 = ((k - 1 : Nat) : Int) by omega, idx_nat, List.getElem?_eq_getElem (by omega)]
/-- two lists, compared element by element, each with a function -/
theorem equal_fun {α : Type} [DecidableEq α] {eqf : α → α → Option Bool} (a b : List α) (ha : ∀ x ∈ a, ∀ y, eqf x y = some (decide (x = y))) (F : Int → Option Bool) (hl : a.length = b.length)
    (hF : ∀ (k : Nat) (h1 : k < a.length) (h2 : k < b.length), F k = (eqf a[k] b[k]).bind fun r => bif !r then some false else F ((k + 1 : Nat) : Int)) (hE : F a.length = some true) : F 0 = some (decide (a = b)) := by
  obtain ⟨r, h1, h2⟩ := equal_loop a b hl F (fun k h1 h2 => by
    rw [hF k h1 h2, ha _ (List.getElem_mem h1)]
    exact ⟨fun h => by rw [decide_eq_false h]; rfl, fun h => by rw [decide_eq_true h]; rfl⟩) hE
  exact h1.trans (some_iff h2)
end Go.Sk

/- A law's arguments, as values of codes. -/
set_option linter.unusedSimpArgs false
set_option linter.unusedVariables false
set_option linter.unusedSectionVars false
namespace Go.Sk
open Go

/-- integers within their kinds; slices no longer than memory is -/
def Fits : (t : Ty) → El t → Prop
  | .bool, _ => True
  | .int k, n => k.min ≤ n ∧ n ≤ k.max
  | .str, s => s.size ≤ 9223372036854775807
  | .unit, _ => True
  | .pair a b, x => Fits a x.1 ∧ Fits b x.2
  | .slice t, xs => List.length (α := El t) xs ≤ 9223372036854775807 ∧ ∀ x ∈ (show List (El t) from xs), Fits t x

/-- the fields of a struct lie one behind another, and have cells -/
def layOk (P : Program) : Nat → TypeId → Bool
  | 0, _ => false
  | d + 1, t =>
    match P.underlying t with
    | some .bool | some (.int _) | some .string => true
    | some (.slice e) => layOk P d e && (match tyOf P d e with | some c => c.size == P.cellsOf e && decide (0 < c.size) | none => false)
    | some (.struct fs) => fieldsOk P (layOk P d) (tyOf P d) 0 fs.toList (P.cellsOf t)
    | _ => false
where
  fieldsOk (P : Program) (ok : TypeId → Bool) (ty : TypeId → Option Ty) : Nat → List Field → Nat → Bool
    | off, [], total => off == total
    | off, f :: r, total => f.offset == off && ok f.type && (match ty f.type with | some c => c.size == P.cellsOf f.type | none => false) && fieldsOk P ok ty (off + P.cellsOf f.type) r total

section
variable {H : Type} {enc : TypeId × Value → H} {P : Program} {w : World} {base : Nat} {spare : Nat → Bool} {held : Bool}

theorem list_of {α : Type} {p : Nat → α → Prop} : ∀ (n : Nat), (∀ i, i < n → ∃ x, p i x) → ∃ xs : List α, xs.length = n ∧ ∀ (k : Nat) y, xs[k]? = some y → p k y
  | 0, _ => ⟨[], rfl, by simp⟩
  | n + 1, h => by
    obtain ⟨xs, h1, h2⟩ := list_of n fun i hi => h i (by omega)
    obtain ⟨y, h3⟩ := h n (by omega)
    refine ⟨xs ++ [y], by simp [h1], fun k z hk => ?_⟩
    by_cases hlt : k < xs.length
    · rw [List.getElem?_append_left hlt] at hk
      exact h2 k z hk
    · rw [List.getElem?_append_right (by omega)] at hk
      have e : k = xs.length := by
        have := (List.getElem?_eq_some_iff.1 hk).1
        simp at this
        omega
      subst e
      simp at hk
      subst hk
      rw [h1]
      exact h3
theorem open_ty : ∀ (d : Nat) (t : TypeId) (c : Ty), layOk P d t = true → tyOf P d t = some c → ∀ (fuel : Nat) (cs : List Value) (x : DataW H × List MemPlace), DataW.trod enc P w base spare held fuel t cs = some x →
    ∃ e : El c, RepE w (fun b => b < w.heap.size) c e cs ∧ Fits c e := by
  intro d
  induction d with
  | zero => intro t c hl; cases hl
  | succ d ih =>
    intro t c hl hc fuel cs x hx
    cases fuel with
    | zero => cases hx
    | succ fuel =>
      unfold layOk at hl
      unfold tyOf at hc
      cases hu : P.underlying t with
      | none => rw [hu] at hl; cases hl
      | some D =>
        rw [hu] at hl hc
        cases D <;> simp only at hl hc <;> try (cases hl; done)
        case bool =>
          cases hc
          unfold DataW.trod at hx
          rw [hu] at hx
          simp only at hx
          split at hx <;> try (cases hx; done)
          all_goals (rename_i heq; try (cases heq; done))
          rename_i b
          exact ⟨b, rfl, trivial⟩
        case int k =>
          cases hc
          unfold DataW.trod at hx
          rw [hu] at hx
          simp only at hx
          split at hx <;> try (cases hx; done)
          all_goals (rename_i heq; try (cases heq; done))
          cases heq
          rename_i k' n
          split at hx
          · rename_i hk
            obtain ⟨rfl, hwf⟩ := hk
            refine ⟨n, rfl, ?_⟩
            simp [Lit.wf] at hwf
            exact hwf
          · cases hx
        case string =>
          cases hc
          unfold DataW.trod at hx
          rw [hu] at hx
          simp only at hx
          split at hx <;> try (cases hx; done)
          all_goals (rename_i heq; try (cases heq; done))
          rename_i s
          split at hx
          · rename_i hs
            exact ⟨s, rfl, show s.size ≤ 9223372036854775807 by simpa [maxLen] using hs⟩
          · cases hx
        case slice e =>
          cases hce : tyOf P d e with
          | none => rw [hce] at hc; cases hc
          | some ce =>
            rw [hce] at hc hl
            simp only [Option.map_some, Option.some.injEq] at hc
            subst hc
            simp only [Bool.and_eq_true, beq_iff_eq, decide_eq_true_eq] at hl
            obtain ⟨hle, hsz, hpos⟩ := hl
            rcases Go.Deep.open_slice hu hx with ⟨rfl, _⟩ | ⟨a, len, cap, m, n, D, Pl, rfl, hb, hlc, hmax, hm, _, hel⟩
            · exact ⟨[], ⟨none, 0, rfl, Nat.le_refl _, .inl rfl⟩, Nat.zero_le _, by simp⟩
            · have hlm : len ≤ m := by rw [hm]; split <;> omega
              have key : ∀ i, i < len → ∃ e' : El ce, ∃ us : List Value, us.length = ce.size ∧ RepE w (fun b => b < w.heap.size) ce e' us ∧ Fits ce e' ∧ ∀ (j : Nat) u, us[j]? = some u → w.cell? (a.add (i * ce.size + j)) = some u := by
                intro i hi
                obtain ⟨cs', h1, h2⟩ := hel i (by omega)
                obtain ⟨e', h3, h4⟩ := ih e ce hle hce n cs' _ h2
                obtain ⟨_, h5, h6⟩ := World.cells?_some h1
                refine ⟨e', cs', h3.length, h3, h4, fun j u hj => ?_⟩
                have hjl : j < P.cellsOf e := by rw [← h5]; exact (List.getElem?_eq_some_iff.1 hj).1
                have := h6 j hjl
                rw [hj, hsz] at *
                rw [← this]
                congr 1
                unfold Addr.add
                by_cases hi0 : i * P.cellsOf e = 0
                · simp [hi0]
                · by_cases hj0 : j = 0
                  · simp [hj0, hi0]
                  · have : ¬ (i * P.cellsOf e + j = 0) := by omega
                    simp [hi0, hj0, this, Nat.add_assoc]
              obtain ⟨xs, hxl, hxs⟩ : ∃ xs : List (El ce), xs.length = len ∧ ∀ (k : Nat) y, xs[k]? = some y → ∃ us : List Value, us.length = ce.size ∧ RepE w (fun b => b < w.heap.size) ce y us ∧ Fits ce y ∧ ∀ (j : Nat) u, us[j]? = some u → w.cell? (a.add (k * ce.size + j)) = some u := by
                exact list_of len key
              subst hxl
              refine ⟨xs, ⟨some a, cap, rfl, hlc, ?_⟩, by simp [maxLen] at hmax; omega, fun y hy => ?_⟩
              · by_cases h0 : xs = []
                · exact .inl h0
                · have hlen : 0 < xs.length := List.length_pos_iff.2 h0
                  obtain ⟨us, h1, h2, _, h3⟩ := hxs 0 xs[0] (by simp [hlen])
                  have hu0 : us[0]? = some (us[0]'(by omega)) := List.getElem?_eq_getElem (by omega)
                  have hc0 := h3 0 _ hu0
                  have ha0 : a.add (0 * ce.size + 0) = a := by simp [Addr.add]
                  rw [ha0] at hc0
                  obtain ⟨bb, oo, sp⟩ := a
                  have hsp : sp = none := by
                    unfold World.cell? at hc0
                    split at hc0
                    · split at hc0
                      · cases hc0
                      · rename_i hns; simpa using hns
                    · cases hc0
                  subst hsp
                  refine .inr ⟨bb, oo, rfl, ?_, fun k y hk => ?_⟩
                  · show bb < w.heap.size
                    unfold World.cell? at hc0
                    split at hc0
                    · rename_i hh
                      exact (Array.getElem?_eq_some_iff.1 hh).1
                    · cases hc0
                  · obtain ⟨us, g1, g2, _, g3⟩ := hxs k y hk
                    exact ⟨us, g1, g2, fun j u hj => by have := g3 j u hj; rw [addr_add] at this; rwa [Nat.add_assoc]⟩
              · obtain ⟨k, hk⟩ := List.getElem?_of_mem hy
                obtain ⟨us, _, _, g, _⟩ := hxs k y hk
                exact g
        case struct fs =>
          unfold DataW.trod at hx
          rw [hu] at hx
          have hx' : (if cs.length = P.cellsOf t then (fs.toList.mapM fun f => DataW.trod enc P w base spare held fuel f.type ((cs.drop f.offset).take (P.cellsOf f.type))).map fun xs => (DataW.agg (xs.map (·.1)), xs.flatMap (·.2)) else none) = some x := by
            simpa using hx
          clear hx
          split at hx'
          · rename_i hlen
            cases hm : (fs.toList.mapM fun f => DataW.trod enc P w base spare held fuel f.type ((cs.drop f.offset).take (P.cellsOf f.type))) with
            | none => rw [hm] at hx'; cases hx'
            | some ys =>
              clear hx' hu
              have main : ∀ (l : List Field) (off : Nat) (c : Ty) (ys : List (DataW H × List MemPlace)), layOk.fieldsOk P (layOk P d) (tyOf P d) off l (P.cellsOf t) = true → tyOf.go (l.map fun f => tyOf P d f.type) = some c → off ≤ cs.length →
                  (l.mapM fun f => DataW.trod enc P w base spare held fuel f.type ((cs.drop f.offset).take (P.cellsOf f.type))) = some ys → ∃ e : El c, RepE w (fun b => b < w.heap.size) c e (cs.drop off) ∧ Fits c e := by
                intro l
                induction l with
                | nil =>
                  intro off c ys hok hc hoff hm
                  simp only [List.map_nil, tyOf.go, Option.some.injEq] at hc
                  subst hc
                  simp only [layOk.fieldsOk, beq_iff_eq] at hok
                  refine ⟨(), ?_, trivial⟩
                  show cs.drop off = []
                  rw [hok, ← hlen]
                  simp
                | cons f r ihr =>
                  intro off c ys hok hc hoff hm
                  simp only [layOk.fieldsOk, Bool.and_eq_true, beq_iff_eq] at hok
                  obtain ⟨⟨⟨h1, h2⟩, h3⟩, h4⟩ := hok
                  rw [List.mapM_cons] at hm
                  cases hf : DataW.trod enc P w base spare held fuel f.type ((cs.drop f.offset).take (P.cellsOf f.type)) with
                  | none => rw [hf] at hm; cases hm
                  | some y =>
                    rw [hf] at hm
                    cases hr : (r.mapM fun f => DataW.trod enc P w base spare held fuel f.type ((cs.drop f.offset).take (P.cellsOf f.type))) with
                    | none => rw [hr] at hm; cases hm
                    | some zs =>
                      cases hcf : tyOf P d f.type with
                      | none => rw [hcf] at h3; cases h3
                      | some cf =>
                        rw [hcf] at h3
                        simp only [beq_iff_eq] at h3
                        obtain ⟨e1, g1, g2⟩ := ih f.type cf h2 hcf fuel _ y hf
                        have hl1 := g1.length
                        rw [h1] at g1 hl1
                        have hle : off + P.cellsOf f.type ≤ cs.length := by
                          simp only [List.length_take, List.length_drop] at hl1
                          omega
                        cases r with
                        | nil =>
                          simp only [List.map_cons, List.map_nil, tyOf.go, hcf, Option.some.injEq] at hc
                          subst hc
                          simp only [layOk.fieldsOk, beq_iff_eq] at h4
                          refine ⟨e1, ?_, g2⟩
                          have : (cs.drop off).take (P.cellsOf f.type) = cs.drop off := List.take_of_length_le (by simp; omega)
                          rw [this] at g1
                          exact g1
                        | cons f2 r2 =>
                          cases hgo : tyOf.go ((f2 :: r2).map fun f => tyOf P d f.type) with
                          | none =>
                            simp only [List.map_cons, hcf] at hc hgo
                            simp only [tyOf.go, hgo] at hc
                            cases hc
                          | some cr =>
                            have hc' : c = .pair cf cr := by
                              simp only [List.map_cons, hcf] at hc hgo
                              simp only [tyOf.go, hgo, Option.map_some, Option.some.injEq] at hc
                              exact hc.symm
                            subst hc'
                            obtain ⟨e2, g3, g4⟩ := ihr (off + P.cellsOf f.type) cr zs h4 hgo hle hr
                            refine ⟨(e1, e2), ⟨_, _, ?_, g1, g3⟩, g2, g4⟩
                            rw [← List.drop_drop]
                            exact (List.take_append_drop _ _).symm
              have := main fs.toList 0 c ys hl hc (Nat.zero_le _) hm
              simpa using this
          · cases hx'
end
end Go.Sk

/- A law's row, out of what the evaluator comes to. -/
set_option linter.unusedSimpArgs false
set_option linter.unusedVariables false
set_option linter.unusedSectionVars false
namespace Go.Sk
open Go Go.RowKit

theorem RelC.bool_inv' {w : World} {ok rd : Nat → Prop} {β : Nat → Value} {kd : Nat → KD} {al : Nat → Prop} {b : Bool} {v : Value} (h : RelC w ok rd β kd al (.bool b) v) : v = .bool b := by cases h; rfl
@[reducible] def ElL : List Ty → Type
  | [] => Unit
  | t :: r => El t × ElL r
def FitsL : (ts : List Ty) → ElL ts → Prop
  | [], _ => True
  | t :: r, x => Fits t x.1 ∧ FitsL r x.2
def argV (g : Option Bool) (c : Ty) (x : El c) : V :=
  match g with
  | some true => .agg (enc c x)
  | some false => (match enc c x with | [v] => .one v | _ => uv)
  | none => uv
def argVs' (P : Program) : List TypeId → (codes : List Ty) → ElL codes → List V
  | t :: ts, c :: cs, x => argV (aggAt P t) c x.1 :: argVs' P ts cs x.2
  | _, _, _ => []

section
variable {H : Type} {enc' : TypeId × Value → H} {P : Program} {W W' : World} {β : Nat → Value}

theorem open_one {t : TypeId} {c : Ty} {v : Value} {d : DataW H} {ps : List MemPlace} {r : _root_.Go.Reach} {base : Nat} (hl : layOk P 12 t = true) (hc : tyAt P t = some c) (hval : Value.okWide P W r base t v) (hd : DataW.Trod enc' P W 0 (fun _ => true) true t v d ps) :
    ∃ x : El c, Fits c x ∧ RelV W (fun b => b < W.heap.size) (fun _ => False) β noKd noAl (argV (aggAt P t) c x) v := by
  obtain ⟨fuel, hf⟩ := hd
  obtain ⟨x, h1, h2⟩ := open_ty 12 t c hl hc fuel _ _ hf
  refine ⟨x, h2, ?_⟩
  have hrel : RelL W (fun b => b < W.heap.size) (fun _ => False) β noKd noAl (enc c x) v.cells.toList := rel_enc h1
  cases hu : P.underlying t with
  | none => unfold layOk at hl; rw [hu] at hl; cases hl
  | some D =>
    have one : aggAt P t = some false → v.cells = #[v] → RelV W (fun b => b < W.heap.size) (fun _ => False) β noKd noAl (argV (aggAt P t) c x) v := by
      intro hg hv
      rw [hv] at hrel
      rw [hg]
      unfold argV
      simp only
      split
      · rename_i u he
        rw [he] at hrel
        exact .one _ _ (hrel.2 0 u v rfl rfl)
      · exact .one _ _ (.undef _)
    unfold Value.okWide at hval
    rw [hu] at hval
    cases D <;> simp only at hval <;> (try (unfold layOk at hl; rw [hu] at hl; cases hl; done))
    case struct fs =>
      obtain ⟨cs, rfl, _⟩ := hval
      have hg : aggAt P t = some true := by unfold aggAt; rw [hu]
      rw [hg]
      have := RelV.ofL hrel
      simpa [argV, Value.cells] using this
    all_goals
      refine one (by unfold aggAt; rw [hu]) ?_
      cases v <;> first | rfl | (unfold Cell.okWide at hval; rw [hu] at hval; unfold Cell.ok at hval; rw [hu] at hval; exact hval.elim) | skip

theorem open_all : ∀ (ts : List TypeId) (codes : List Ty) (vs : List Value) (ds : List (DataW H)) (ps : List MemPlace) {r : _root_.Go.Reach} {base : Nat}, ts.map (tyAt P) = codes.map some → ts.all (layOk P 12) = true → DataW.TrodAll enc' P W 0 (fun _ => true) true ts vs ds ps →
    (∀ (j : Nat) t v, ts[j]? = some t → vs[j]? = some v → Value.okWide P W r base t v) → vs.length = ts.length ∧ ds.length = ts.length ∧ ∃ xs : ElL codes, FitsL codes xs ∧ (argVs' P ts codes xs).length = vs.length ∧
      ∀ (j : Nat) a u, (argVs' P ts codes xs)[j]? = some a → vs[j]? = some u → RelV W (fun b => b < W.heap.size) (fun _ => False) β noKd noAl a u
  | [], codes, vs, ds, ps, r, base, hc, hl, hA, hval => by
    cases codes with
    | cons => simp at hc
    | nil =>
      obtain ⟨rfl, rfl, rfl⟩ := Go.ChangeShapes.trodAll_nil hA
      exact ⟨rfl, rfl, (), trivial, rfl, fun j a u h => by simp [argVs'] at h⟩
  | t :: ts, codes, vs, ds, ps, r, base, hc, hl, hA, hval => by
    cases codes with
    | nil => simp at hc
    | cons c cs =>
      simp only [List.map_cons, List.cons.injEq] at hc
      simp only [List.all_cons, Bool.and_eq_true] at hl
      obtain ⟨v, vs1, d, ds1, p, q, rfl, rfl, rfl, h1, h2⟩ := Go.ChangeShapes.trodAll_cons hA
      obtain ⟨x, g1, g2⟩ := open_one (β := β) hl.1 hc.1 (hval 0 t v rfl rfl) h1
      obtain ⟨e1, e2, xs, g3, g4, g5⟩ := open_all ts cs vs1 ds1 q hc.2 hl.2 h2 fun j t v hj hv => hval (j + 1) t v (by simpa using hj) (by simpa using hv)
      refine ⟨by simp [e1], by simp [e2], (x, xs), ⟨g1, g3⟩, by simp [argVs', g4], fun j a u hj hu => ?_⟩
      cases j with
      | zero =>
        simp [argVs'] at hj hu
        subst hj
        subst hu
        exact g2
      | succ j => exact g5 j a u (by simpa [argVs'] using hj) (by simpa using hu)

theorem back_all (hlaid : laidOutB P = true) (hb : Below W.heap.size W W') : ∀ (ts : List TypeId) (vs : List Value) (ds : List (DataW H)) (ps : List MemPlace), (∀ t ∈ ts, P.readableRec t = true ∧ t < P.types.size) → DataW.TrodAll enc' P W 0 (fun _ => true) true ts vs ds ps →
    DataW.TrodAll enc' P W' 0 (fun b => decide (b < W.heap.size)) true ts vs ds ps
  | [], vs, ds, ps, _, hA => by
    obtain ⟨rfl, rfl, rfl⟩ := Go.ChangeShapes.trodAll_nil hA
    exact hA
  | t :: ts, vs, ds, ps, hr, hA => by
    obtain ⟨v, vs1, d, ds1, p, q, rfl, rfl, rfl, h1, h2⟩ := Go.ChangeShapes.trodAll_cons hA
    have hlt : ∀ x ∈ p, x.block < W.heap.size := by
      obtain ⟨m, hm⟩ := h1
      exact DataW.trod_lt m _ _ _ hm
    exact trodAll_cons_mk (Below.trod hlaid (hr t (by simp)).1 (hr t (by simp)).2 h1 hb hlt) (back_all hlaid hb ts vs1 ds1 q (fun t ht => hr t (by simp [ht])) h2)

theorem law_contract {C : Cfg} (hlaid : laidOutB P = true) (hm : P.follows .mixedOrders = true) (hN : namesOk P = true) (hP : PrimOk P C) {f : FuncId} {fn : Func} {tb : TypeId} (hrt : fn.resultTypes = #[tb]) (htb : P.underlying tb = some .bool)
    (hread : ∀ t ∈ fn.params.toList, P.readableRec t = true ∧ t < P.types.size) {codes : List Ty} (hc : fn.params.toList.map (tyAt P) = codes.map some) (hl : fn.params.toList.all (layOk P 12) = true)
    {spec : ChangeSpec} (hvars : spec.vars = []) (hspec : ∀ ds : List (DataW H), ds.length = fn.params.toList.length → spec.fn H ds = { results := [.lit (.bool true)], args := ds })
    (hlaw : ∀ xs : ElL codes, FitsL codes xs → callF P C f (argVs' P fn.params.toList codes xs) [] ⟨[.one (.ty .bool)], 0⟩ = some true)
    {base : Nat} {args : Array Value} {ds gs : List (DataW H)} {before : List MemPlace} (hval : ∀ (j : Nat) t v, fn.params[j]? = some t → args[j]? = some v → Value.okWide P W .any base t v)
    (hW : DataW.Whole enc' P fn.params.toList spec.vars false W args.toList ds gs before) :
    Calls P f args W fun e W' => ∃ v, e = .returned v ∧ spec.post enc' P fn false true false false W args v W' := by
  have hW' := hW
  obtain ⟨p, q, hA, hV, rfl, hfz, hnd⟩ := hW
  rw [hvars] at hV
  obtain ⟨rfl, rfl⟩ := Go.ChangeShapes.trodVars_none hV
  obtain ⟨e1, e2, xs, h1, h2, h3⟩ := open_all (β := fun _ => undef) fn.params.toList codes args.toList ds p hc hl hA (fun j t v hj hv => hval j t v (by simpa using hj) (by simpa using hv))
  have hsp := (callF_sound hm hN hP (hlaw xs h1)).1.pure W (fun b => b < W.heap.size) (fun _ => False) (fun _ => undef) args (fun _ h => h) (fun _ h => h.elim) (by simpa using h2.symm) h3
  refine hsp.mono fun e W' he => ?_
  obtain ⟨v, ok', rfl, hI⟩ := he
  obtain ⟨β', h4, h5⟩ := hI 0
  have hv : v = .bool true := by
    have : RelV W' ok' (fun _ => False) β' (kds (wrs [] (numbered 0 []))) (fun i => 0 ≤ i ∧ i < 0 + 0) (.one (.bool true)) v := h5
    exact this.one'.bool_inv' 
  subst hv
  have bel : Below W.heap.size W W' := ⟨h4.os, h4.tape, h4.out, h4.grow, fun k hk => h4.keep k hk fun h => h⟩
  refine ⟨_, rfl, _, _, _, [], p, [], hW', ?_, ?_, ?_, bel.frame _, fun h => by cases h⟩
  · rw [List.append_nil, hspec ds e2, hrt]
    exact Go.ChangeShapes.trodAll_mk1 (shut_bool htb _)
  · rw [List.append_nil, hspec ds e2]
    exact back_all hlaid bel fn.params.toList args.toList ds _ hread hA
  · rw [List.append_nil, hspec ds e2, hvars]
    rfl
end
end Go.Sk

/- A law's contract where the form's reach bounds the slices that are handed in. -/
set_option linter.unusedSimpArgs false
set_option linter.unusedVariables false
namespace Go.Sk
open Go Go.RowKit
/-- the slices among the arguments take up no more than the reach -/
def TopSz (P : Program) : List TypeId → (codes : List Ty) → ElL codes → Prop
  | t :: ts, .slice c :: cs, x => (∀ e, P.underlying t = some (.slice e) → List.length (α := El c) x.1 * P.bytesOf e ≤ reachBytes) ∧ TopSz P ts cs x.2
  | _ :: ts, .bool :: cs, x => TopSz P ts cs x.2
  | _ :: ts, .int _ :: cs, x => TopSz P ts cs x.2
  | _ :: ts, .str :: cs, x => TopSz P ts cs x.2
  | _ :: ts, .unit :: cs, x => TopSz P ts cs x.2
  | _ :: ts, .pair _ _ :: cs, x => TopSz P ts cs x.2
  | _, _, _ => True
section
variable {H : Type} {enc' : TypeId × Value → H} {P : Program} {W W' : World}
theorem top_one {t e : TypeId} {v : Value} {d : DataW H} {ps : List MemPlace} {A : Option Addr} {n c : Nat} (hu : P.underlying t = some (.slice e)) (hd : DataW.Trod enc' P W 0 (fun _ => true) true t v d ps) (hv : v = .slice A n c) (hsz : ∀ m ∈ d.weights P t, m ≤ reachBytes) :
    n * P.bytesOf e ≤ reachBytes := by
  obtain ⟨fuel, hf⟩ := hd
  subst hv
  rcases Go.Deep.open_slice hu hf with ⟨h1, _⟩ | ⟨a, len, cap, m, n', D, Pl, h1, _, _, _, _, h2, _⟩
  · have : n = 0 := by
      have h1' : [Value.slice A n c] = [Value.slice none 0 0] := h1
      simp only [List.cons.injEq, Value.slice.injEq] at h1'
      exact h1'.1.2.1
    rw [this, Nat.zero_mul]
    exact Nat.zero_le _
  · have hn : n = len := by
      have h1' : [Value.slice A n c] = [Value.slice (some a) len cap] := h1
      simp only [List.cons.injEq, Value.slice.injEq] at h1'
      exact h1'.1.2.1
    have hd' : d = .slice ((List.range len).map D) ((List.range (m - len)).map fun j => D (len + j)) := congrArg Prod.fst h2
    rw [hd'] at hsz
    have := hsz _ (by unfold DataW.weights; rw [hu]; exact List.mem_cons_self ..)
    simp only [List.length_map, List.length_range] at this
    rw [hn]
    exact Nat.le_trans (Nat.mul_le_mul_right _ (Nat.le_add_right _ _)) this
theorem arg_slice {β : Nat → Value} {t e : TypeId} {ce : Ty} {x : List (El ce)} {v : Value} (hu : P.underlying t = some (.slice e)) (h : RelV W (fun b => b < W.heap.size) (fun _ => False) β noKd noAl (argV (aggAt P t) (.slice ce) x) v) : ∃ A c, v = .slice A x.length c := by
  have hg : aggAt P t = some false := by unfold aggAt; rw [hu]
  rw [hg] at h
  have h1 : RelV W (fun b => b < W.heap.size) (fun _ => False) β noKd noAl (.one (.slc ce x)) v := h
  have h2 := h1.one'
  cases h2
  exact ⟨_, _, rfl⟩
theorem open_allS {β : Nat → Value} : ∀ (ts : List TypeId) (codes : List Ty) (vs : List Value) (ds : List (DataW H)) (ps : List MemPlace) {r : _root_.Go.Reach} {base : Nat}, ts.map (tyAt P) = codes.map some → ts.all (layOk P 12) = true → DataW.TrodAll enc' P W 0 (fun _ => true) true ts vs ds ps →
    (∀ (j : Nat) t v, ts[j]? = some t → vs[j]? = some v → Value.okWide P W r base t v) → (∀ m ∈ DataW.weightsEach P ts ds, m ≤ reachBytes) → vs.length = ts.length ∧ ds.length = ts.length ∧ ∃ xs : ElL codes, FitsL codes xs ∧ TopSz P ts codes xs ∧ (argVs' P ts codes xs).length = vs.length ∧
      ∀ (j : Nat) a u, (argVs' P ts codes xs)[j]? = some a → vs[j]? = some u → RelV W (fun b => b < W.heap.size) (fun _ => False) β noKd noAl a u
  | [], codes, vs, ds, ps, r, base, hc, hl, hA, hval, hsz => by
    cases codes with
    | cons => simp at hc
    | nil =>
      obtain ⟨rfl, rfl, rfl⟩ := Go.ChangeShapes.trodAll_nil hA
      exact ⟨rfl, rfl, (), trivial, trivial, rfl, fun j a u h => by simp [argVs'] at h⟩
  | t :: ts, codes, vs, ds, ps, r, base, hc, hl, hA, hval, hsz => by
    cases codes with
    | nil => simp at hc
    | cons c cs =>
      simp only [List.map_cons, List.cons.injEq] at hc
      simp only [List.all_cons, Bool.and_eq_true] at hl
      obtain ⟨v, vs1, d, ds1, p, q, rfl, rfl, rfl, h1, h2⟩ := Go.ChangeShapes.trodAll_cons hA
      obtain ⟨x, g1, g2⟩ := open_one (β := β) hl.1 hc.1 (hval 0 t v rfl rfl) h1
      have hw : ∀ m ∈ d.weights P t, m ≤ reachBytes := fun m hm => hsz m (by simp only [DataW.weightsEach, List.mem_append]; exact .inl hm)
      obtain ⟨e1, e2, xs, g3, g6, g4, g5⟩ := open_allS ts cs vs1 ds1 q hc.2 hl.2 h2 (fun j t v hj hv => hval (j + 1) t v (by simpa using hj) (by simpa using hv)) fun m hm => hsz m (by simp only [DataW.weightsEach, List.mem_append]; exact .inr hm)
      refine ⟨by simp [e1], by simp [e2], (x, xs), ⟨g1, g3⟩, ?_, by simp [argVs', g4], fun j a u hj hu => ?_⟩
      · cases c with
        | slice ce =>
          refine ⟨fun e hu => ?_, g6⟩
          obtain ⟨A, cp, hv⟩ := arg_slice hu g2
          exact top_one hu h1 hv hw
        | _ => exact g6
      · cases j with
        | zero =>
          simp [argVs'] at hj hu
          subst hj
          subst hu
          exact g2
        | succ j => exact g5 j a u (by simpa [argVs'] using hj) (by simpa using hu)
theorem law_contractS {C : Cfg} (hlaid : laidOutB P = true) (hm : P.follows .mixedOrders = true) (hN : namesOk P = true) (hP : PrimOk P C) {f : FuncId} {fn : Func} {tb : TypeId} (hrt : fn.resultTypes = #[tb]) (htb : P.underlying tb = some .bool)
    (hread : ∀ t ∈ fn.params.toList, P.readableRec t = true ∧ t < P.types.size) {codes : List Ty} (hc : fn.params.toList.map (tyAt P) = codes.map some) (hl : fn.params.toList.all (layOk P 12) = true)
    {spec : ChangeSpec} (hvars : spec.vars = []) (hspec : ∀ ds : List (DataW H), ds.length = fn.params.toList.length → spec.fn H ds = { results := [.lit (.bool true)], args := ds })
    (hlaw : ∀ xs : ElL codes, FitsL codes xs → TopSz P fn.params.toList codes xs → callF P C f (argVs' P fn.params.toList codes xs) [] ⟨[.one (.ty .bool)], 0⟩ = some true)
    {base : Nat} {args : Array Value} {ds gs : List (DataW H)} {before : List MemPlace} (hval : ∀ (j : Nat) t v, fn.params[j]? = some t → args[j]? = some v → Value.okWide P W .any base t v)
    (hW : DataW.Whole enc' P fn.params.toList spec.vars false W args.toList ds gs before)
    (hsz : (DataW.weightsEach P (fn.params.toList ++ spec.plain.varTypes P) (ds ++ gs)).all (· ≤ reachBytes) = true) :
    Calls P f args W fun e W' => ∃ v, e = .returned v ∧ spec.post enc' P fn false true false false W args v W' := by
  have hW' := hW
  obtain ⟨p, q, hA, hV, rfl, hfz, hnd⟩ := hW
  rw [hvars] at hV
  obtain ⟨rfl, rfl⟩ := Go.ChangeShapes.trodVars_none hV
  have hdl : ds.length = fn.params.toList.length := (open_all (β := fun _ => undef) fn.params.toList codes args.toList ds p hc hl hA (fun j t v hj hv => hval j t v (by simpa using hj) (by simpa using hv))).2.1
  have hw : ∀ m ∈ DataW.weightsEach P fn.params.toList ds, m ≤ reachBytes := fun m hm => by
    have key : ∀ (ts us : List TypeId) (ds es : List (DataW H)), ds.length = ts.length → ∀ m ∈ DataW.weightsEach P ts ds, m ∈ DataW.weightsEach P (ts ++ us) (ds ++ es) := by
      intro ts
      induction ts with
      | nil => intro us ds es h m hm; cases ds <;> simp [DataW.weightsEach] at hm h
      | cons t ts ih =>
        intro us ds es h m hm
        cases ds with
        | nil => simp at h
        | cons d ds =>
          simp only [DataW.weightsEach, List.cons_append, List.mem_append] at hm ⊢
          rcases hm with hm | hm
          · exact .inl hm
          · exact .inr (ih us ds es (by simpa using h) m hm)
    have := List.all_eq_true.1 hsz m (key _ _ _ _ hdl m hm)
    simpa using this
  obtain ⟨e1, e2, xs, h1, h6, h2, h3⟩ := open_allS (β := fun _ => undef) fn.params.toList codes args.toList ds p hc hl hA (fun j t v hj hv => hval j t v (by simpa using hj) (by simpa using hv)) hw
  have hsp := (callF_sound hm hN hP (hlaw xs h1 h6)).1.pure W (fun b => b < W.heap.size) (fun _ => False) (fun _ => undef) args (fun _ h => h) (fun _ h => h.elim) (by simpa using h2.symm) h3
  refine hsp.mono fun e W' he => ?_
  obtain ⟨v, ok', rfl, hI⟩ := he
  obtain ⟨β', h4, h5⟩ := hI 0
  have hv : v = .bool true := by
    have : RelV W' ok' (fun _ => False) β' (kds (wrs [] (numbered 0 []))) (fun i => 0 ≤ i ∧ i < 0 + 0) (.one (.bool true)) v := h5
    exact this.one'.bool_inv'
  subst hv
  have bel : Below W.heap.size W W' := ⟨h4.os, h4.tape, h4.out, h4.grow, fun k hk => h4.keep k hk fun h => h⟩
  refine ⟨_, rfl, _, _, _, [], p, [], hW', ?_, ?_, ?_, bel.frame _, fun h => by cases h⟩
  · rw [List.append_nil, hspec ds e2, hrt]
    exact Go.ChangeShapes.trodAll_mk1 (shut_bool htb _)
  · rw [List.append_nil, hspec ds e2]
    exact back_all hlaid bel fn.params.toList args.toList ds _ hread hA
  · rw [List.append_nil, hspec ds e2, hvars]
    rfl
end
end Go.Sk
