/- The evaluator is sound: what it comes to, the function comes to. -/
import Derived.Test.YtgamdchlgikaiaaSkZA
set_option linter.unusedSimpArgs false
set_option linter.unusedVariables false
set_option linter.unusedSectionVars false
namespace Go.Sk
open Go

def namesOk (P : Program) : Bool := P.funcs.toList.all fun fn => fn.body.isNone || !(fn.name == "runtime.NumGoroutine")
theorem namesOk_spec {P : Program} (h : namesOk P = true) {g : FuncId} {fn : Func} {c : Code} (hf : P.funcs[g]? = some fn) (hb : fn.body = some c) : (fn.name == "runtime.NumGoroutine") = false := by
  have := List.all_eq_true.1 h fn (by simpa using Array.mem_of_getElem? hf)
  rw [hb] at this
  simpa using this

theorem padV_spec : ∀ (n : Nat) (vs : List V), (padV n vs).length = max n vs.length ∧ ∀ (i : Nat) v, (padV n vs)[i]? = some v → vs[i]? = some v ∨ v = uv
  | 0, vs => ⟨by simp [padV], fun i v h => .inl h⟩
  | n + 1, [] => by
    obtain ⟨h1, h2⟩ := padV_spec n []
    refine ⟨by simp [padV, h1], fun i v h => ?_⟩
    cases i with
    | zero => simp [padV] at h; exact .inr h.symm
    | succ i => exact (h2 i v (by simpa [padV] using h)).imp (fun h => by simp at h) id
  | n + 1, x :: r => by
    obtain ⟨h1, h2⟩ := padV_spec n r
    refine ⟨by simp [padV, h1], fun i v h => ?_⟩
    cases i with
    | zero => simp [padV] at h; exact .inl (by simp [h])
    | succ i => exact (h2 i v (by simpa [padV] using h)).imp (fun h => by simpa using h) id

section
variable {P : Program} {C : Cfg}
/-- a function is entered -/
theorem Inv.pad {X : Fr} {args : List V} {mem : List Obj} {al : Nat → Prop} {us : Array Value} {w : World} {β : Nat → Value} {ok : Nat → Prop} (h : Inv X args mem al us w β ok) (n : Nat) :
    Inv X (padV n args) mem al (us ++ Array.replicate (n - us.size) undef) w β ok := by
  obtain ⟨h1, h2⟩ := padV_spec n args
  have hl := h.size
  exact { h with
    size := by rw [h1]; simp; omega
    env := fun t v ht => by
      rcases h2 t v ht with h0 | rfl
      · have hlt : t < args.length := (List.getElem?_eq_some_iff.1 h0).1
        have hlt2 : t < us.size := by omega
        have e : (us ++ Array.replicate (n - us.size) undef).getD t undef = us.getD t undef := by
          rw [Array.getD_eq_getD_getElem?, Array.getD_eq_getD_getElem?, Array.getElem?_append_left hlt2]
        rw [e]
        exact h.env t v h0
      · exact .one _ _ (.undef _) }

theorem bodyOf_some {g : FuncId} {n : Nat} {ρ : RD} {s : St} {x : ρ.El} (h : run P C n g ρ (entry P g) s = some x) : ∃ fn c, P.funcs[g]? = some fn ∧ fn.body = some c := by
  cases n with
  | zero => cases h
  | succ n =>
    cases hf : P.funcs[g]? with
    | none =>
      have : bodyOf P g = .refuse "" := by unfold bodyOf; rw [hf]
      unfold run entry at h
      rw [this] at h
      cases h
    | some fn =>
      cases hb : fn.body with
      | some c => exact ⟨fn, c, rfl, hb⟩
      | none =>
        have : bodyOf P g = .refuse "" := by unfold bodyOf; rw [hf]; simp only [hb]
        unfold run entry at h
        rw [this] at h
        cases h

theorem enter_goes {g : FuncId} {fn : Func} {c : Code} (hf : P.funcs[g]? = some fn) (hb : fn.body = some c) {us : Array Value} {w : World} {Post : Value → World → Prop}
    (h : Goes P g Post (start (entry P g)) (us ++ Array.replicate (fn.ntmps - us.size) undef) w) : Calls P g us w fun e w' => ∃ v, e = .returned v ∧ Post v w' := by
  intro cs
  obtain ⟨v, w', fr, h1, h2, h3, h4⟩ := h cs
  have hbody : bodyOf P g = c := by unfold bodyOf; rw [hf]; simp only [hb]
  have henter : Frame.enter P g us .normal = (fr0 g).at ⟨us ++ Array.replicate (fn.ntmps - us.size) undef, []⟩ (start (entry P g)) := by
    unfold entry
    rw [hbody]
    simp [Frame.enter, Frame.at, hf, hb, fr0, start, items]
  exact ⟨.returned v, w', fr, ⟨v, rfl, h1⟩, by rw [henter]; exact h2, h3, h4⟩

/-- what is told of functions is so -/
def PrimOk (P : Program) (C : Cfg) : Prop := ∀ (g : FuncId) (as : List V) (m : List Obj) (ρ : RD) (x : ρ.El), C.prim g as m ρ = some x → FnSpec P g as m ρ x ∧ Enters P g

theorem run_sound (hm : P.follows .mixedOrders = true) (hN : namesOk P = true) (hP : PrimOk P C) : ∀ (n : Nat) (f : FuncId) (ρ : RD) (ks : List KI) (s : St) (x : ρ.El), run P C n f ρ ks s = some x →
    ∀ {fn : Func}, P.funcs[f]? = some fn → ∀ {X : Fr} {al : Nat → Prop} {tmps : Array Value} {w : World} {β : Nat → Value} {ok : Nat → Prop}, Inv X s.env s.mem al tmps w β ok → (∀ j, s.mem.length ≤ j → ¬ al j) →
      Goes P f (PostM X ρ.vals ρ.roots x) (start ks) tmps w := by
  intro n
  induction n with
  | zero => intro f ρ ks s x h; cases h
  | succ n ih =>
    intro f ρ ks s x h fn hf X al tmps w β ok hI hal
    have hcall : CallOk P (orPrim C fun g as m σ => run P C n g σ (entry P g) (initS P g as m)) := by
      intro g as m σ y hy
      unfold orPrim at hy
      split at hy
      · rename_i z hz
        simp at hy
        subst hy
        exact hP g as m σ z hz
      · obtain ⟨fg, c, hfg, hbg⟩ := bodyOf_some hy
        refine ⟨fun X al us β ok hI hal => ?_, fg, c, hfg, hbg, namesOk_spec hN hfg hbg⟩
        have hnt : (fxOf P g).ntmps = fg.ntmps := by unfold fxOf; rw [hfg]
        exact enter_goes hfg hbg (ih g σ (entry P g) (initS P g as m) y hy hfg (X := X) (al := al) (w := X.w0) (β := β) (ok := ok) (by unfold initS; rw [hnt]; exact hI.pad _) hal)
    unfold run at h
    have main := fun ks' h' => seg_goes (C := C) (X := X) (PostR := fun x => PostM X ρ.vals ρ.roots x) (fin := finR ρ) hm hcall hf
      (fun ks s x hx al tmps w β ok hI hal => ih f ρ ks s x hx hf hI hal)
      (fun s x hx al tmps w β ok hI hal => by
        unfold finT at hx
        split at hx
        · rename_i vs hvs
          have hres : (fxOf P f).results = fn.results.toList := by unfold fxOf; rw [hf]
          rw [hres] at hvs
          obtain ⟨v, h1, cvs, hc, h2⟩ := results_run (P := P) hI fn hvs
          obtain ⟨vs', m', al', β', _, hI', hl', hr', hx'⟩ := settleVs_sound vs s.mem _ cvs hI hal hc.1 h2 hx
          exact ⟨v, h1, fin_post hI' (hc.rel (hl'.trans hc.1) hr') hx'⟩
        · cases hx) segFuel ks' s x h' hI hal
    cases ks with
    | nil => exact main [] h
    | cons k0 k =>
      cases k0 with
      | lp b => exact main (.code b :: .lp b :: k) h
      | _ => exact main _ h

/-- what a function is told to come to, it comes to -/
theorem callF_sound (hm : P.follows .mixedOrders = true) (hN : namesOk P = true) (hP : PrimOk P C) {f : FuncId} {args : List V} {m : List Obj} {ρ : RD} {x : ρ.El} (h : callF P C f args m ρ = some x) : FnSpec P f args m ρ x ∧ Enters P f := by
  obtain ⟨n, hn⟩ := run_of_lim h
  obtain ⟨fg, c, hfg, hbg⟩ := bodyOf_some hn
  refine ⟨fun X al us β ok hI hal => ?_, fg, c, hfg, hbg, namesOk_spec hN hfg hbg⟩
  have hnt : (fxOf P f).ntmps = fg.ntmps := by unfold fxOf; rw [hfg]
  exact enter_goes hfg hbg (run_sound hm hN hP n f ρ (entry P f) (initS P f args m) x hn hfg (X := X) (al := al) (w := X.w0) (β := β) (ok := ok) (by unfold initS; rw [hnt]; exact hI.pad _) hal)
end
end Go.Sk
