/- The evaluator is sound: what it comes to, the function comes to. -/
import Derived.Test.YtpcahneiinjdmaaT3
import Derived.Sort.Grow
import Derived.Sort.EncStr
import Derived.Test.YtpcahneiinjdmaaT1
import Derived.IntWalk
import Derived.Laws.Strings
import Derived.Sort.Walk0
import Derived.WalkKit
import Derived.ProofKit
import Derived.OpenShut
import Derived.ShutString
import Derived.ChangeOld
import Derived.Below
import Derived.SizedLaws
import Derived.Carry
import Derived.Deep.Slices
import Derived.Maps.RangeRun
import Derived.Sort.KeysCollected
set_option linter.unusedSimpArgs false
set_option linter.unusedVariables false
set_option linter.unusedSectionVars false
namespace Go.Sk
open Go

def namesOk (P : Program) : Bool := P.funcs.toList.all fun fn => fn.body.isNone || !(fn.name == "runtime.NumGoroutine")
theorem namesOk_spec {P : Program} (h : namesOk P = true) {g : FuncId} {fn : Func} {c : Code} (hf : P.funcs[g]? = some fn) (hb : fn.body = some c) : (fn.name == "runtime.NumGoroutine") = false := by
  have := List.all_eq_true.1 h fn (by simpa using Array.mem_of_getElem? hf)
  rw [hb] at this
  simpa using this

theorem padV_spec : ∀ (n : Nat) (vs : List V), (padV n vs).length = max n vs.length ∧ ∀ (i : Nat) v, (padV n vs)[i]? = some v → vs[i]? = some v ∨ v = uv
  | 0, vs => ⟨by simp [padV], fun i v h => .inl h⟩
  | n + 1, [] => by
    obtain ⟨h1, h2⟩ := padV_spec n []
    refine ⟨by simp [padV, h1], fun i v h => ?_⟩
    cases i with
    | zero => simp [padV] at h; exact .inr h.symm
    | succ i => exact (h2 i v (by simpa [padV] using h)).imp (fun h => by simp at h) id
  | n + 1, x :: r => by
    obtain ⟨h1, h2⟩ := padV_spec n r
    refine ⟨by simp [padV, h1], fun i v h => ?_⟩
    cases i with
    | zero => simp [padV] at h; exact .inl (by simp [h])
    | succ i => exact (h2 i v (by simpa [padV] using h)).imp (fun h => by simpa using h) id

section
variable {P : Program} {C : Cfg}
/-- a function is entered -/
theorem Inv.pad {X : Fr} {args : List V} {mem : List Obj} {al : Nat → Prop} {us : Array Value} {w : World} {β : Nat → Value} {ok : Nat → Prop} (h : Inv X args mem al us w β ok) (n : Nat) :
    Inv X (padV n args) mem al (us ++ Array.replicate (n - us.size) undef) w β ok := by
  obtain ⟨h1, h2⟩ := padV_spec n args
  have hl := h.size
  exact { h with
    size := by rw [h1]; simp; omega
    env := fun t v ht => by
      rcases h2 t v ht with h0 | rfl
      · have hlt : t < args.length := (List.getElem?_eq_some_iff.1 h0).1
        have hlt2 : t < us.size := by omega
        have e : (us ++ Array.replicate (n - us.size) undef).getD t undef = us.getD t undef := by
          rw [Array.getD_eq_getD_getElem?, Array.getD_eq_getD_getElem?, Array.getElem?_append_left hlt2]
        rw [e]
        exact h.env t v h0
      · exact .one _ _ (.undef _) }

theorem bodyOf_some {g : FuncId} {n : Nat} {ρ : RD} {s : St} {x : ρ.El} (h : run P C n g ρ (entry P g) s = some x) : ∃ fn c, P.funcs[g]? = some fn ∧ fn.body = some c := by
  cases n with
  | zero => cases h
  | succ n =>
    cases hf : P.funcs[g]? with
    | none =>
      have : bodyOf P g = .refuse "" := by unfold bodyOf; rw [hf]
      unfold run entry at h
      rw [this] at h
      cases h
    | some fn =>
      cases hb : fn.body with
      | some c => exact ⟨fn, c, rfl, hb⟩
      | none =>
        have : bodyOf P g = .refuse "" := by unfold bodyOf; rw [hf]; simp only [hb]
        unfold run entry at h
        rw [this] at h
        cases h

theorem enter_goes {g : FuncId} {fn : Func} {c : Code} (hf : P.funcs[g]? = some fn) (hb : fn.body = some c) {us : Array Value} {w : World} {Post : Value → World → Prop}
    (h : Goes P g Post (start (entry P g)) (us ++ Array.replicate (fn.ntmps - us.size) undef) w) : Calls P g us w fun e w' => ∃ v, e = .returned v ∧ Post v w' := by
  intro cs
  obtain ⟨v, w', fr, h1, h2, h3, h4⟩ := h cs
  have hbody : bodyOf P g = c := by unfold bodyOf; rw [hf]; simp only [hb]
  have henter : Frame.enter P g us .normal = (fr0 g).at ⟨us ++ Array.replicate (fn.ntmps - us.size) undef, []⟩ (start (entry P g)) := by
    unfold entry
    rw [hbody]
    simp [Frame.enter, Frame.at, hf, hb, fr0, start, items]
  exact ⟨.returned v, w', fr, ⟨v, rfl, h1⟩, by rw [henter]; exact h2, h3, h4⟩

/-- what is told of functions is so -/
def PrimOk (P : Program) (C : Cfg) : Prop := (∀ (g : FuncId) (asv : List V) (m : List Obj) (ρ : RD) (x : ρ.El), C.prim g asv m ρ = some x → FnSpec P g asv m ρ x ∧ Enters P g) ∧ ∀ g, C.ref g = .apart → ApartFn P g

theorem run_sound (hm : P.follows .mixedOrders = true) (hN : namesOk P = true) (hP : PrimOk P C) : ∀ (n : Nat) (f : FuncId) (ρ : RD) (ks : List KI) (s : St) (x : ρ.El), run P C n f ρ ks s = some x →
    ∀ {fn : Func}, P.funcs[f]? = some fn → ∀ {X : Fr} {al : Nat → Prop} {tmps : Array Value} {w : World} {β : Nat → Value} {ok : Nat → Prop}, Inv X s.env s.mem al tmps w β ok → (∀ j, s.mem.length ≤ j → ¬ al j) →
      Goes P f (PostM X ρ.vals ρ.roots x) (start ks) tmps w := by
  intro n
  induction n with
  | zero => intro f ρ ks s x h; cases h
  | succ n ih =>
    intro f ρ ks s x h fn hf X al tmps w β ok hI hal
    have hcall : CallOk P C (orPrim C fun g asv m σ => run P C n g σ (entry P g) (initS P g asv m)) := by
      refine ⟨?_, hP.2⟩
      intro g asv m σ y hy
      unfold orPrim at hy
      split at hy
      · rename_i z hz
        simp at hy
        subst hy
        exact hP.1 g asv m σ z hz
      · obtain ⟨fg, c, hfg, hbg⟩ := bodyOf_some hy
        refine ⟨fun X al us β ok hI hal => ?_, fg, c, hfg, hbg, namesOk_spec hN hfg hbg⟩
        have hnt : (fxOf P g).ntmps = fg.ntmps := by unfold fxOf; rw [hfg]
        exact enter_goes hfg hbg (ih g σ (entry P g) (initS P g asv m) y hy hfg (X := X) (al := al) (w := X.w0) (β := β) (ok := ok) (by unfold initS; rw [hnt]; exact hI.pad _) hal)
    unfold run at h
    have main := fun ks' h' => seg_goes (C := C) (X := X) (PostR := fun x => PostM X ρ.vals ρ.roots x) (fin := finR ρ) hm hcall hf
      (fun ks s x hx al tmps w β ok hI hal => ih f ρ ks s x hx hf hI hal)
      (fun s x hx al tmps w β ok hI hal => by
        unfold finT at hx
        split at hx
        · rename_i vs hvs
          have hres : (fxOf P f).results = fn.results.toList := by unfold fxOf; rw [hf]
          rw [hres] at hvs
          obtain ⟨v, h1, cvs, hc, h2⟩ := results_run (P := P) hI fn hvs
          obtain ⟨vs', m', al', β', _, hI', hl', hr', hx'⟩ := settleVs_sound vs s.mem _ cvs hI hal hc.1 h2 hx
          exact ⟨v, h1, fin_post hI' (hc.rel (hl'.trans hc.1) hr') hx'⟩
        · cases hx) segFuel ks' s x h' hI hal
    cases ks with
    | nil => exact main [] h
    | cons k0 k =>
      cases k0 with
      | lp b => exact main (.code b :: .lp b :: k) h
      | _ => exact main _ h

/-- what a function is told to come to, it comes to -/
theorem callF_sound (hm : P.follows .mixedOrders = true) (hN : namesOk P = true) (hP : PrimOk P C) {f : FuncId} {args : List V} {m : List Obj} {ρ : RD} {x : ρ.El} (h : callF P C f args m ρ = some x) : FnSpec P f args m ρ x ∧ Enters P f := by
  obtain ⟨n, hn⟩ := run_of_lim h
  obtain ⟨fg, c, hfg, hbg⟩ := bodyOf_some hn
  refine ⟨fun X al us β ok hI hal => ?_, fg, c, hfg, hbg, namesOk_spec hN hfg hbg⟩
  have hnt : (fxOf P f).ntmps = fg.ntmps := by unfold fxOf; rw [hfg]
  exact enter_goes hfg hbg (run_sound hm hN hP n f ρ (entry P f) (initS P f args m) x hn hfg (X := X) (al := al) (w := X.w0) (β := β) (ok := ok) (by unfold initS; rw [hnt]; exact hI.pad _) hal)
end
end Go.Sk

/- What is told of slices.Insert at an owned row: from what it comes to wherever the row's capacity is known. -/
set_option linter.unusedSimpArgs false
set_option linter.unusedVariables false
namespace Go.Sk
open Go Go.RowKit

section
variable {P : Program} {g : FuncId}
/-- a row of the call's own is handed over; told for each room that it may have -/
theorem FnSpec.room {t u : Ty} {xs : List (El t)} {ys : List (El u)} {k : IntKind} {i : Int} {ρ : RD} {x : ρ.El}
    (h : ∀ sp : List (El t), FnSpec P g [.one (.ovw 1 0 xs.length), .one (.int k i), .one (.osl 2)] [.ghost [], .full t (xs ++ sp), .row u ys] ρ x) :
    FnSpec P g [.one (.osl 1), .one (.int k i), .one (.osl 2)] [.ghost [], .row t xs, .row u ys] ρ x := by
  intro X al us β ok hI hal
  have hob := hI.obj 1
  obtain ⟨A, c, hb, hob⟩ := (show ObjRel X.w0 ok X.rd β (kds [.ghost [], .row t xs, .row u ys]) al 1 (.row t xs) from hob)
  obtain ⟨sp, hsp, hfull⟩ : ∃ sp : List (El t), xs.length + sp.length = c ∧ (xs ++ sp = [] ∨ ∃ b o arr T, A = some ⟨b, o, none⟩ ∧ X.w0.heap[b]? = some (.cells arr T (0, 0)) ∧ o + (xs ++ sp).length * t.size ≤ arr.size ∧ Lies X.w0 ok t (xs ++ sp) (xs ++ sp).length o arr) := by
    rcases hob with ⟨rfl, rfl⟩ | ⟨b, o, arr, T, rfl, hh, h0, hle, hs, sp, h1, h2⟩
    · exact ⟨[], rfl, .inl rfl⟩
    · refine ⟨sp, h1, .inr ⟨b, o, arr, T, rfl, hh, by rw [List.length_append, h1]; exact hs, [], by simp, fun q y hq => h2 q y ?_⟩⟩
      rw [List.append_nil] at hq
      exact hq
  have hlc : (xs ++ sp).length = c := by rw [List.length_append]; exact hsp
  let β' : Nat → Value := fun j => if j = 1 then .slice A c c else β j
  have hown : ∀ j, ownB ([Obj.ghost [], .full t (xs ++ sp), .row u ys].getD j .dead) (β' j) = ownB ([Obj.ghost [], .row t xs, .row u ys].getD j .dead) (β j) := fun j => by
    match j with
    | 0 => rfl
    | 1 =>
      show ownB (.full t (xs ++ sp)) (.slice A c c) = ownB (.row t xs) (β 1)
      rw [hb]
      cases A <;> rfl
    | 2 => rfl
    | j + 3 => rfl
  have hkd : ∀ j, kds [.ghost [], .full t (xs ++ sp), .row u ys] j = kds [.ghost [], .row t xs, .row u ys] j := fun j => by
    match j with
    | 0 => rfl
    | 1 => rfl
    | 2 => rfl
    | j + 3 => rfl
  refine h sp X al us β' ok { hI with env := fun q v hq => ?_, obj := fun j => ?_, len := fun j hj => hI.len j fun e => hj ((hkd j).trans e), inj := fun i j b hi hj => hI.inj i j b (by rw [← hown]; exact hi) (by rw [← hown]; exact hj), apart := fun j b hj => hI.apart j b (by rw [← hown]; exact hj), apartR := fun j b hj => hI.apartR j b (by rw [← hown]; exact hj), gh := fun j hj => ?_, ownOld := fun j b hj => hI.ownOld j b (by rw [← hown]; exact hj) } hal
  · match q, hq with
    | 0, hq =>
      cases hq
      have h1 := (hI.env 0 _ rfl).one'
      have hv : us.getD 0 undef = β 1 := by
        generalize us.getD 0 undef = v at h1
        cases h1 with
        | osl _ _ hi hk _ => exact hk (by simp [Obj.kd])
      refine .one _ _ (.ovw _ _ _ _ (hI.len 1 (by simp [Obj.kd])) (fun t' ht' => ?_) (by rw [hv, hb]; rfl))
      cases ht'
      refine ⟨A, c, c, A, rfl, by rw [hv, hb]; rfl, by omega, fun b o he _ => ?_⟩
      rw [he]
      simp
    | 1, hq =>
      cases hq
      have h1 := (hI.env 1 _ rfl).one'
      generalize us.getD 1 undef = v at h1 ⊢
      cases h1
      exact .one _ _ (.int _ _)
    | 2, hq =>
      cases hq
      have h1 := (hI.env 2 _ rfl).one'
      generalize us.getD 2 undef = v at h1 ⊢
      cases h1 with
      | osl _ _ hi hk h1 => exact .one _ _ (.osl _ _ hi hk h1)
    | q + 3, hq => simp at hq
  · match j with
    | 0 =>
      have := hI.obj 0
      obtain ⟨us', h1, h2⟩ := (show ObjRel X.w0 ok X.rd β (kds [.ghost [], .row t xs, .row u ys]) al 0 (.ghost []) from this)
      exact ⟨us', h1, h2.1, fun j c u hj => by simp at hj⟩
    | 1 => exact ⟨A, show Value.slice A c c = _ by rw [hlc], hfull⟩
    | 2 => exact hI.obj 2
    | j + 3 => exact hI.obj (j + 3)
  · match j, hj with
    | 0, hj => exact hI.gh 0 rfl
    | 1, hj => cases hj
    | 2, hj => cases hj
    | j + 3, hj => cases hj
end

/-- what is told of slices.Insert -/
def insPrim (bt : Ty) (bytes : Nat) (args : List V) (mem : List Obj) (ρ : RD) : Option ρ.El :=
  match args, mem, ρ with
  | [.one (.osl 1), .one (.int .i64 i), .one (.osl 2)], [.ghost [], .row t xs, .row u ys], ⟨[.one (.ty (.slice r))], 0⟩ =>
    match decS bt t xs, decS bt u ys, Ty.eq? bt r with
    | some xs, some ys, some ⟨h⟩ => if 0 ≤ i ∧ i ≤ xs.length ∧ 0 < ys.length ∧ (xs.length + ys.length) * bytes ≤ 140737488355328 then some (h ▸ (xs.take i.toNat ++ ys ++ xs.drop i.toNat)) else none
    | _, _, _ => none
  | _, _, _ => none
theorem insPrim_spec {P : Program} {g : FuncId} {bt : Ty} {bytes : Nat} (h : ∀ (xs ys sp : List (El bt)) (i : Int), 0 ≤ i → i ≤ xs.length → 0 < ys.length → (xs.length + ys.length) * bytes ≤ 140737488355328 →
      FnSpec P g [.one (.ovw 1 0 xs.length), .one (.int .i64 i), .one (.osl 2)] [.ghost [], .full bt (xs ++ sp), .row bt ys] ⟨[.one (.ty (.slice bt))], 0⟩ (xs.take i.toNat ++ ys ++ xs.drop i.toNat))
    {args : List V} {mem : List Obj} {ρ : RD} {x : ρ.El} (hx : insPrim bt bytes args mem ρ = some x) : FnSpec P g args mem ρ x := by
  unfold insPrim at hx
  split at hx
  · rename_i i t xs u ys r
    split at hx
    · rename_i xs' ys' hr h1 h2 h3
      obtain ⟨rfl, rfl⟩ := decS_spec h1
      obtain ⟨rfl, rfl⟩ := decS_spec h2
      subst hr
      split at hx
      · rename_i hg
        cases hx
        exact FnSpec.room fun sp => h _ _ sp i hg.1 hg.2.1 hg.2.2.1 hg.2.2.2
      · cases hx
    · cases hx
  · cases hx
end Go.Sk

/- What is told of slices.Clone: from what it comes to at a slice of which it is known whether it is nil. -/
set_option linter.unusedSimpArgs false
set_option linter.unusedVariables false
namespace Go.Sk
open Go Go.RowKit

section
variable {P : Program} {g : FuncId}
/-- whatever is so of a nil slice and of one that is not -/
theorem FnSpec.chk {t : Ty} {xs : List (El t)} {ρ : RD} {x : ρ.El} (h : ∀ b, (b = true → xs = []) → FnSpec P g [.one (.chk b t xs)] [] ρ x) : FnSpec P g [.one (.slc t xs)] [] ρ x := by
  intro X al us β ok hI hal
  have h1 := (hI.env 0 _ rfl).one'
  obtain ⟨A, c, hv, hc, hrow⟩ : ∃ A c, us.getD 0 undef = .slice A xs.length c ∧ xs.length ≤ c ∧ RowAt X.w0 ok (RepE X.w0 ok t) t.size A xs := by
    generalize us.getD 0 undef = v at h1 ⊢
    cases h1
    exact ⟨_, _, rfl, by assumption, by assumption⟩
  refine h A.isNone (fun hb => ?_) X al us β ok { hI with env := fun q v hq => ?_ } hal
  · rcases hrow with h0 | ⟨b, o, rfl, _⟩
    · exact h0
    · cases hb
  · match q, hq with
    | 0, hq =>
      cases hq
      rw [hv]
      exact .one _ _ (.chk _ t xs A c rfl hc hrow)
    | q + 1, hq => simp at hq
end

/-- what is told of slices.Clone -/
def clonePrim (bt : Ty) (bytes : Nat) (args : List V) (mem : List Obj) (ρ : RD) : Option ρ.El :=
  match args, mem, ρ with
  | [.one (.slc t xs)], [], ⟨[.one (.own r)], 0⟩ =>
    match decS bt t xs, Ty.eq? bt r with
    | some xs, some ⟨h⟩ => if xs.length * bytes ≤ 140737488355328 then some (h ▸ xs) else none
    | _, _ => none
  | _, _, _ => none
theorem clonePrim_spec {P : Program} {g : FuncId} {bt : Ty} {bytes : Nat} (h : ∀ (b : Bool) (xs : List (El bt)), (b = true → xs = []) → xs.length * bytes ≤ 140737488355328 → FnSpec P g [.one (.chk b bt xs)] [] ⟨[.one (.own bt)], 0⟩ xs)
    {args : List V} {mem : List Obj} {ρ : RD} {x : ρ.El} (hx : clonePrim bt bytes args mem ρ = some x) : FnSpec P g args mem ρ x := by
  unfold clonePrim at hx
  split at hx
  · rename_i t xs r
    split at hx
    · rename_i xs' hr h1 h2
      obtain ⟨rfl, rfl⟩ := decS_spec h1
      subst hr
      split at hx
      · rename_i hg
        cases hx
        exact FnSpec.chk fun b hb => h b _ hb hg
      · cases hx
    · cases hx
  · cases hx
end Go.Sk

/- What is told of a function that sorts an owned row of texts in place: from its contract over any world. -/
set_option linter.unusedSimpArgs false
set_option linter.unusedVariables false
namespace Go.Sk
open Go Go.RowKit

/-- texts, ascending -/
def sortTexts (l : List ByteArray) : List ByteArray := l.mergeSort fun a b => decide (a.data.toList ≤ b.data.toList)
abbrev bytesOfT (l : List ByteArray) : List (List UInt8) := l.map fun a => a.data.toList
theorem sortTexts_bytes (l : List ByteArray) : bytesOfT (sortTexts l) = (bytesOfT l).mergeSort fun x y => decide (x ≤ y) := List.map_mergeSort fun _ _ _ _ => rfl
theorem encStr_bytes (a : ByteArray) : Go.Proofs.encStr a.data.toList = .string a := rfl
theorem putCellsS_get (o : Nat) (ys : List (List UInt8)) (arr : Array Value) (k : Nat) : (Sort.putCells Go.Proofs.encStr o ys.toArray arr)[k]? = arr[k]?.map fun x => if o ≤ k ∧ k < o + ys.length then Go.Proofs.encStr ys.toArray[k - o]! else x := by
  unfold Sort.putCells
  rw [Array.getElem?_mapIdx]
  rfl
theorem heapS_grow (w : World) (os : Array Go.Obj) (b : Nat) (h : b < w.heap.size) : (Sort.grow w os).heap[b]? = w.heap[b]? := by
  unfold Sort.grow
  rw [Array.getElem?_append_left h]
theorem heapS_putRow (w : World) (b o : Nat) (ys : List (List UInt8)) (b' : Nat) : (Sort.putRow Go.Proofs.encStr w b o ys.toArray).heap[b']? = if b = b' then w.heap[b']?.map (Sort.onCells (Sort.putCells Go.Proofs.encStr o ys.toArray)) else w.heap[b']? := by
  unfold Sort.putRow Sort.mapBlock
  exact Array.getElem?_modify

section
variable {P : Program} {g : FuncId}
theorem sortedS_fin {X : Fr} {al : Nat → Prop} {w : World} {β : Nat → Value} {ok : Nat → Prop} {ys : List ByteArray} (h : Inv X [] [.ghost [.osl 1], .row .str ys] al #[] w β ok) : PostM X [.one (.own .str)] 1 ys (.tuple #[]) w :=
  fin_post (ρ := ⟨[.one (.own .str)], 1⟩) (x := ys) (q := .tup []) h (.tup [] [] rfl fun j v u hv => by simp at hv) rfl

theorem sortS_told (hS : ∀ (blk off cap : Nat) (zs : List (List UInt8)) (w : World), Sort.Holds Go.Proofs.encStr w blk off zs.toArray → blk < w.heap.size → zs.length < 4611686018427387904 →
      Calls P g #[.slice (some ⟨blk, off, none⟩) zs.length cap] w fun e w' => e = .returned (.tuple #[]) ∧ ∃ n os, w' = Sort.grow (Sort.putRow Go.Proofs.encStr (Sort.ahead w n) blk off (zs.mergeSort fun x y => decide (x ≤ y)).toArray) os)
    (hN : ∀ (p : Option Addr) (cap : Nat) (w : World), Calls P g #[.slice p 0 cap] w fun e w' => e = .returned (.tuple #[]) ∧ w' = w) {xs : List ByteArray} (hsz : xs.length < 4611686018427387904) :
    FnSpec P g [.one (.osl 1)] [.ghost [.osl 1], .row .str xs] ⟨[.one (.own .str)], 1⟩ (sortTexts xs) := by
  intro X al us β ok h hal
  have h1 := h.env 0 _ rfl
  have hu : us.getD 0 undef = β 1 := by
    have := h1.one'
    generalize us.getD 0 undef = u at this
    cases this with
    | osl _ _ hi hk _ => exact hk (by simp [Obj.kd])
  have hus : us = #[β 1] := by
    have h2 : us.size = 1 := h.size
    rw [← hu]
    apply Array.ext
    · simpa using h2
    · intro i hi1 hi2
      have : i = 0 := by omega
      subst this
      simp [Array.getD, hi1]
  have hob := h.obj 1
  obtain ⟨A, c, hb, hob⟩ := (show ObjRel X.w0 ok X.rd β (kds [.ghost [.osl 1], .row .str xs]) al 1 (.row .str xs) from hob)
  have hle : (sortTexts xs).length = xs.length := List.length_mergeSort _
  have drop : ∀ {ys : List ByteArray} {w' : World}, Inv X [.one (.osl 1)] [.ghost [.osl 1], .row .str ys] al us w' β ok → Inv X [] [.ghost [.osl 1], .row .str ys] al #[] w' β ok := fun h => { h with size := rfl, env := fun t v ht => by simp at ht }
  rw [hus, hb]
  by_cases hx : xs = []
  · subst hx
    refine (hN A c X.w0).mono fun e w' he => ?_
    obtain ⟨rfl, rfl⟩ := he
    exact ⟨_, rfl, sortedS_fin (drop (by simpa [sortTexts] using h))⟩
  rcases hob with ⟨rfl, _⟩ | ⟨b, o, arr, T, rfl, hh, h0, hlc, hsz', hl⟩
  · exact absurd rfl hx
  have hblt : b < X.w0.heap.size := by
    rcases Nat.lt_or_ge b X.w0.heap.size with h | h
    · exact h
    · rw [Array.getElem?_eq_none h] at hh; cases hh
  have hlen : (bytesOfT xs).length = xs.length := List.length_map _
  have hH : Sort.Holds Go.Proofs.encStr X.w0 b o (bytesOfT xs).toArray := by
    intro j hj
    have hj' : j < xs.length := by rw [← hlen]; simpa using hj
    obtain ⟨us, l1, l2, l3⟩ := hl.at_ j xs[j] (List.getElem?_eq_getElem hj')
    have l2' : us = [.string xs[j]] := l2
    have := l3 0 (.string xs[j]) (by rw [l2']; rfl)
    simp only [Ty.size, Nat.mul_one, Nat.add_zero] at this
    refine ⟨?_, ?_⟩
    · unfold World.cell?
      simp only [hh]
      rw [this]
      simp [bytesOfT, hj']
    · unfold World.frozen?
      simp only [hh]
      simp
  have hcall := hS b o c (bytesOfT xs) X.w0 hH hblt (by rw [hlen]; exact hsz)
  rw [hlen, ← sortTexts_bytes] at hcall
  refine hcall.mono fun e w' he => ?_
  obtain ⟨rfl, n, os, rfl⟩ := he
  refine ⟨_, rfl, sortedS_fin (drop ?_)⟩
  generalize hys : sortTexts xs = ys at *
  have hlenY : (bytesOfT ys).length = ys.length := List.length_map _
  have hown : own [.ghost [.osl 1], .row .str xs] β 1 = some b := by
    unfold own
    rw [hb]
    show ownB (.row .str xs) _ = _
    simp only [ownB]
    rw [if_neg (by omega)]
  have hs1 : (Sort.putRow Go.Proofs.encStr (Sort.ahead X.w0 n) b o (bytesOfT ys).toArray).heap.size = X.w0.heap.size := by simp
  have hheap : ∀ b', b' < X.w0.heap.size → (Sort.grow (Sort.putRow Go.Proofs.encStr (Sort.ahead X.w0 n) b o (bytesOfT ys).toArray) os).heap[b']? = if b = b' then X.w0.heap[b']?.map (Sort.onCells (Sort.putCells Go.Proofs.encStr o (bytesOfT ys).toArray)) else X.w0.heap[b']? := fun b' hb' => by
    rw [heapS_grow _ _ _ (by rw [hs1]; exact hb'), heapS_putRow]
    rfl
  refine (h.update (mem' := [.ghost [.osl 1], .row .str ys]) (al' := al) (w' := Sort.grow (Sort.putRow Go.Proofs.encStr (Sort.ahead X.w0 n) b o (bytesOfT ys).toArray) os) (β' := β) (ok' := ok) (fun i => i = 1) (fun _ h => h) (fun i hi _ => hi ▸ h.len 1 (by simp [Obj.kd])) (fun i hi => ?_) (fun _ _ => rfl)
    (fun i hi _ => .inl ⟨by subst hi; rfl, rfl⟩) (fun i hi hg => by subst hi; exact absurd (show KD.row .str = KD.ghost from hg) (by simp)) (fun b' hb' hne => ?_) ?_ (fun _ h => h) (fun _ h => .inl h) (fun ext i hi => ?_) (fun i b' hi hb' => ?_) (fun i j _ hi hj _ _ => by rw [hi, hj]) (fun i b' hi hb' => ?_) rfl rfl rfl).2
  · match i, hi with
    | 0, _ => rfl
    | 1, hi => exact absurd rfl hi
    | i + 2, _ => rfl
  · rw [hheap b' hb', if_neg fun e => hne 1 rfl (by rw [hown, e])]
  · simp
  · subst hi
    show ObjRel _ _ _ _ _ _ 1 (.row .str ys)
    refine ⟨_, c, by rw [hb, hle], .inr ⟨b, o, Sort.putCells Go.Proofs.encStr o (bytesOfT ys).toArray arr, T, rfl, ?_, h0, by omega, ?_, ?_⟩⟩
    · rw [hheap b hblt, if_pos rfl, hh]
      rfl
    · simpa [Sort.putCells] using hsz'
    · refine lies_of (fun k x hk => ?_) ?_
      · obtain ⟨hk1, hk2⟩ := List.getElem?_eq_some_iff.1 hk
        refine ⟨[.string x], rfl, rfl, fun j u hj => ?_⟩
        cases j with
        | succ j => simp at hj
        | zero =>
          simp at hj
          subst hj
          simp only [Ty.size, Nat.mul_one, Nat.add_zero] at hsz' ⊢
          rw [putCellsS_get, Array.getElem?_eq_getElem (by omega), Option.map_some, if_pos (by omega)]
          rw [show o + k - o = k by omega]
          simp [bytesOfT, hk1, hk2]
      · obtain ⟨sp, s1, s2⟩ := hl.spare
        refine ⟨sp, by omega, fun k x hk => ?_⟩
        obtain ⟨us, a1, a2, a3⟩ := s2 k x hk
        have a2' : us = [.string x] := a2
        refine ⟨us, a1, a2', fun j u hj => ?_⟩
        have := a3 j u hj
        rw [hle, putCellsS_get, this]
        simp only [Option.map_some, Ty.size, Nat.mul_one]
        rw [if_neg (by omega)]
  · subst hi
    refine .inl ⟨1, rfl, ?_⟩
    unfold own at hb' ⊢
    rw [hb] at hb' ⊢
    simpa [ownB] using hb'
  · subst hi
    refine h.apart 1 b' ?_
    unfold own at hb'
    rw [hb] at hb' ⊢
    simpa [ownB] using hb'
end
end Go.Sk

/- What is told of a function that hands back the keys of a set of texts, ascending. -/
namespace Go.Sk
open Go Go.RowKit
def keysPrim (args : List V) (mem : List Obj) (ρ : RD) : Option ρ.El :=
  match args, mem, ρ with
  | [.one (.osl 1)], [.ghost [.osl 1], .map .str .bool false es t], ⟨[.one (.own .str), .one (.map .str .bool false t')], 1⟩ =>
    if t = true ∧ t' = true ∧ es.length * 16 ≤ 140737488355328 then some (sortTexts (es.map fun e => e.1), es) else none
  | _, _, _ => none
end Go.Sk

/- Plain words for the equations: integers that do not wrap, indexes, tests. -/
set_option linter.unusedSimpArgs false
set_option linter.unusedVariables false
namespace Go.Sk
open Go

theorem wr_in {x : Int} (h0 : -9223372036854775808 ≤ x) (h1 : x ≤ 9223372036854775807) : IntKind.i64.wrap x = x := by
  exact IntWalk.i64_in _ ⟨h0, h1⟩
theorem wr_succ {k n : Nat} (h : k < n) (hn : n ≤ 9223372036854775807) : IntKind.i64.wrap ((k : Int) + 1) = ((k + 1 : Nat) : Int) := by
  rw [wr_in (by omega) (by omega)]; rfl
theorem idx_nat {α : Type} (xs : List α) (k : Nat) : idx xs (k : Int) = xs[k]? := by
  unfold idx; rw [if_pos (by omega)]; rfl
theorem cond_dec {α : Type} {p : Prop} [Decidable p] (x y : α) : (bif decide p then x else y) = if p then x else y := by
  by_cases h : p <;> simp [h]
theorem min_if (a b : Nat) : (if (b : Int) < (a : Int) then (b : Int) else (a : Int)) = ((min a b : Nat) : Int) := by
  by_cases h : b < a
  · rw [if_pos (by omega)]; congr 1; omega
  · rw [if_neg (by omega)]; congr 1; omega
theorem dec_in {n : Nat} {k : Nat} (h : k < n) : (decide (0 ≤ (k : Int)) && decide ((k : Int) < (n : Int))) = true := by
  simp [h]
theorem lt_true {k n : Nat} (h : k < n) : decide ((k : Int) < (n : Int)) = true := by simp [h]
theorem lt_false {k n : Nat} (h : n ≤ k) : decide ((k : Int) < (n : Int)) = false := by simp; omega

/-! ### loops over lists -/
section
variable {α β γ : Type}
/-- a loop over a list, with a state and early ends -/
def foldE (step : β → α → Option (γ ⊕ β)) (fin : β → Option γ) : List α → β → Option γ
  | [], b => fin b
  | x :: r, b => (step b x).bind fun q => match q with | .inl g => some g | .inr b' => foldE step fin r b'
theorem loopE (xs : List α) (step : β → α → Option (γ ⊕ β)) (fin : β → Option γ) (F : β → Int → Option γ)
    (hF : ∀ b (k : Nat) (hk : k < xs.length), F b k = (step b xs[k]).bind fun q => match q with | .inl g => some g | .inr b' => F b' ((k + 1 : Nat) : Int))
    (hE : ∀ b, F b xs.length = fin b) (b : β) : F b 0 = foldE step fin xs b := by
  have key : ∀ m k b, k + m = xs.length → F b k = foldE step fin (xs.drop k) b := by
    intro m
    induction m with
    | zero => intro k b hk; rw [List.drop_of_length_le (by omega), show k = xs.length by omega, hE]; rfl
    | succ m ih =>
      intro k b hk
      have hlt : k < xs.length := by omega
      rw [hF b k hlt, List.drop_eq_getElem_cons hlt]
      simp only [foldE]
      congr 1
      funext q
      cases q with
      | inl g => rfl
      | inr b' => exact ih (k + 1) b' (by omega)
  simpa using key xs.length 0 b (by omega)
/-- the same, where a round looks at its number -/
theorem loopI (xs : List α) (step : β → α × Nat → Option (γ ⊕ β)) (fin : β → Option γ) (F : β → Int → Option γ)
    (hF : ∀ b (k : Nat) (hk : k < xs.length), F b k = (step b (xs[k], k)).bind fun q => match q with | .inl g => some g | .inr b' => F b' ((k + 1 : Nat) : Int))
    (hE : ∀ b, F b xs.length = fin b) (b : β) : F b 0 = foldE step fin xs.zipIdx b :=
  loopE xs.zipIdx step fin F (fun b k hk => by
    have hk' : k < xs.length := by simpa using hk
    rw [hF b k hk']
    simp) (fun b => by rw [List.length_zipIdx]; exact hE b) b
/-- no early end: a fold -/
theorem foldE_foldl (f : β → α → β) (fin : β → Option γ) : ∀ (xs : List α) (b : β), foldE (fun b x => some (.inr (f b x))) fin xs b = fin (xs.foldl f b)
  | [], b => rfl
  | x :: r, b => by simp only [foldE, Option.bind_some, List.foldl_cons]; exact foldE_foldl f fin r _
theorem foldE_congr {step step' : β → α → Option (γ ⊕ β)} {fin : β → Option γ} : ∀ {xs : List α} (h : ∀ b x, x ∈ xs → step b x = step' b x) (b : β), foldE step fin xs b = foldE step' fin xs b
  | [], _, b => rfl
  | x :: r, h, b => by
    simp only [foldE]
    rw [h b x (by simp)]
    congr 1
    funext q
    cases q with
    | inl g => rfl
    | inr b' => exact foldE_congr (fun b y hy => h b y (by simp [hy])) b'
/-- the first element that a test holds of -/
theorem foldE_find (p : α → Bool) (g : Nat → γ) (d : Option γ) : ∀ (xs : List α) (n : Nat), foldE (fun (b : Unit) (q : α × Nat) => some (bif p q.1 then .inl (g q.2) else .inr b)) (fun _ => d) (xs.zipIdx n) () = match xs.findIdx? p with | some k => some (g (n + k)) | none => d
  | [], n => rfl
  | x :: r, n => by
    simp only [List.zipIdx_cons, foldE, Option.bind_some, List.findIdx?_cons]
    cases h : p x with
    | true => simp
    | false =>
      simp only [cond_false]
      rw [foldE_find p g d r (n + 1)]
      cases r.findIdx? p <;> simp
      congr 1
      omega
theorem find_findIdx (p : α → Bool) : ∀ (xs : List α), xs.find? p = (xs.findIdx? p).bind fun k => xs[k]?
  | [] => rfl
  | x :: r => by
    rw [List.find?_cons, List.findIdx?_cons]
    cases h : p x with
    | true => simp
    | false =>
      simp only [Bool.false_eq_true, if_false]
      rw [find_findIdx p r]
      cases r.findIdx? p <;> simp
/-- the first element, itself handed on -/
theorem foldE_find1 (p : α → Bool) (g : α → γ) (d : Option γ) : ∀ (xs : List α), foldE (fun (b : Unit) (x : α) => some (bif p x then .inl (g x) else .inr b)) (fun _ => d) xs () = match xs.find? p with | some x => some (g x) | none => d
  | [] => rfl
  | x :: r => by
    simp only [foldE, Option.bind_some, List.find?_cons]
    cases h : p x with
    | true => simp
    | false => simp only [cond_false]; exact foldE_find1 p g d r
/-- what a test holds of is collected -/
theorem foldE_filter {δ : Type} (p : α → Bool) (f : α → δ) (c M : Nat) (fin : List δ → Option γ) : ∀ (xs : List α) (acc : List δ), (acc.length + xs.length) * c ≤ M →
    foldE (fun acc x => bif p x then (bif decide ((acc.length + 1) * c ≤ M) then some (.inr (acc ++ [f x])) else none) else some (.inr acc)) fin xs acc = fin (acc ++ (xs.filter p).map f)
  | [], acc, _ => by simp [foldE]
  | x :: r, acc, h => by
    simp only [foldE, List.filter_cons]
    have h1 : (acc.length + 1) * c ≤ M := Nat.le_trans (Nat.mul_le_mul_right c (by simp)) h
    cases hp : p x with
    | false =>
      simp only [cond_false, Option.bind_some, Bool.false_eq_true, if_false]
      exact foldE_filter p f c M fin r acc (Nat.le_trans (Nat.mul_le_mul_right c (by simp)) h)
    | true =>
      simp only [cond_true, h1, decide_true, Option.bind_some, if_true, List.map_cons]
      rw [foldE_filter p f c M fin r (acc ++ [f x]) (by simp at h ⊢; rw [show acc.length + 1 + r.length = acc.length + (r.length + 1) by omega]; exact h)]
      simp
end
end Go.Sk

/- Loops that count, as plain functions of a list. -/
set_option linter.unusedVariables false
namespace Go.Sk

section
variable {α β γ : Type}
/-- the first number that a test holds of ends it -/
theorem cnt_loop (n : Nat) (F : Int → Option γ) (bad : Nat → Bool) (r : γ) (d : Option γ) (hF : ∀ k : Nat, k < n → F k = bif bad k then some r else F ((k + 1 : Nat) : Int)) (hE : F n = d) :
    F 0 = bif (List.range n).any bad then some r else d := by
  have key : ∀ m k : Nat, k + m = n → F k = bif (List.range' k m).any bad then some r else d := by
    intro m
    induction m with
    | zero => intro k hk; rw [show k = n by omega, hE]; rfl
    | succ m ih =>
      intro k hk
      rw [hF k (by omega), List.range'_succ, List.any_cons]
      cases bad k with
      | true => rfl
      | false => exact ih (k + 1) (by omega)
  have := key n 0 (by omega)
  rw [List.range_eq_range']
  exact this
/-- the first element that a test holds of ends it -/
theorem any_loop (xs : List α) (F : Int → Option γ) (bad : α → Bool) (r : γ) (d : Option γ) (hF : ∀ (k : Nat) (hk : k < xs.length), F k = bif bad xs[k] then some r else F ((k + 1 : Nat) : Int)) (hE : F xs.length = d) :
    F 0 = bif xs.any bad then some r else d := by
  have key : ∀ m k : Nat, k + m = xs.length → F k = bif (xs.drop k).any bad then some r else d := by
    intro m
    induction m with
    | zero => intro k hk; rw [show k = xs.length by omega, hE, List.drop_length]; rfl
    | succ m ih =>
      intro k hk
      have hlt : k < xs.length := by omega
      rw [hF k hlt, List.drop_eq_getElem_cons hlt, List.any_cons]
      cases bad xs[k] with
      | true => rfl
      | false => exact ih (k + 1) (by omega)
  exact key xs.length 0 (by omega)
def found (g : Nat → γ) (d : Option γ) : Option Nat → Option γ
  | some k => some (g k)
  | none => d
/-- a place in a list, or -1 -/
def pos1 : Option Nat → Int
  | some k => k
  | none => -1
theorem found_pos (o : Option Nat) : found (fun k => (k : Int)) (some (-1)) o = some (pos1 o) := by cases o <;> rfl
/-- the number of the first element that a test holds of -/
theorem find_loop (xs : List α) (F : Int → Option γ) (p : α → Bool) (g : Nat → γ) (d : Option γ) (hF : ∀ (k : Nat) (hk : k < xs.length), F k = bif p xs[k] then some (g k) else F ((k + 1 : Nat) : Int)) (hE : F xs.length = d) :
    F 0 = found g d (xs.findIdx? p) := by
  have key : ∀ m k : Nat, k + m = xs.length → F k = found (fun j => g (k + j)) d ((xs.drop k).findIdx? p) := by
    intro m
    induction m with
    | zero => intro k hk; rw [show k = xs.length by omega, hE, List.drop_length]; rfl
    | succ m ih =>
      intro k hk
      have hlt : k < xs.length := by omega
      rw [hF k hlt, List.drop_eq_getElem_cons hlt, List.findIdx?_cons]
      cases p xs[k] with
      | true => rfl
      | false =>
        rw [cond_false, ih (k + 1) (by omega)]
        cases (xs.drop (k + 1)).findIdx? p with
        | none => rfl
        | some j => show some (g (k + 1 + j)) = some (g (k + (j + 1))); rw [show k + 1 + j = k + (j + 1) by omega]
  have := key xs.length 0 (by omega)
  simpa using this
/-- a state that each element changes -/
theorem fold_loop (xs : List α) (F : β → Int → Option γ) (f : β → α → β) (inv : β → Nat → Prop) (fin : β → Option γ) (hF : ∀ (b : β) (k : Nat) (hk : k < xs.length), inv b k → F b k = F (f b xs[k]) ((k + 1 : Nat) : Int))
    (hI : ∀ (b : β) (k : Nat) (hk : k < xs.length), inv b k → inv (f b xs[k]) (k + 1)) (hE : ∀ b, inv b xs.length → F b xs.length = fin b) (b : β) (h0 : inv b 0) : F b 0 = fin (xs.foldl f b) := by
  have key : ∀ m k b, k + m = xs.length → inv b k → F b k = fin ((xs.drop k).foldl f b) := by
    intro m
    induction m with
    | zero =>
      intro k b hk hi
      have e : k = xs.length := by omega
      subst e
      rw [hE _ hi, List.drop_length]; rfl
    | succ m ih =>
      intro k b hk hi
      have hlt : k < xs.length := by omega
      rw [hF b k hlt hi, List.drop_eq_getElem_cons hlt, List.foldl_cons]
      exact ih (k + 1) _ (by omega) (hI b k hlt hi)
  exact key xs.length 0 b (by omega) h0
/-- what a test holds of is collected -/
theorem filter_loop (xs : List α) (F : List β → Int → Option γ) (p : α → Bool) (g : α → β) (fin : List β → Option γ) (hF : ∀ (acc : List β) (k : Nat) (hk : k < xs.length), acc.length ≤ k → F acc k = bif p xs[k] then F (acc ++ [g xs[k]]) ((k + 1 : Nat) : Int) else F acc ((k + 1 : Nat) : Int))
    (hE : ∀ acc, acc.length ≤ xs.length → F acc xs.length = fin acc) : F [] 0 = fin ((xs.filter p).map g) := by
  have e : ∀ (l : List α) (acc : List β), l.foldl (fun acc x => if p x then acc ++ [g x] else acc) acc = acc ++ (l.filter p).map g := by
    intro l
    induction l with
    | nil => intro acc; simp
    | cons a r ih =>
      intro acc
      rw [List.foldl_cons, ih, List.filter_cons]
      cases h : p a <;> simp
  have := fold_loop xs F (fun acc x => if p x then acc ++ [g x] else acc) (fun acc k => acc.length ≤ k) fin (fun acc k hk hi => by
    rw [hF acc k hk hi]
    cases h : p xs[k] <;> simp) (fun acc k hk hi => by
    cases h : p xs[k] <;> simp <;> omega) hE [] (Nat.zero_le _)
  rw [this, e]
  simp
/-- each element is taken over -/
theorem map_loop (xs : List α) (F : List β → Int → Option γ) (g : α → β) (fin : List β → Option γ) (hF : ∀ (acc : List β) (k : Nat) (hk : k < xs.length), acc.length = k → F acc k = F (acc ++ [g xs[k]]) ((k + 1 : Nat) : Int))
    (hE : ∀ acc, acc.length = xs.length → F acc xs.length = fin acc) : F [] 0 = fin (xs.map g) := by
  have e : ∀ (l : List α) (acc : List β), l.foldl (fun acc x => acc ++ [g x]) acc = acc ++ l.map g := by
    intro l
    induction l with
    | nil => intro acc; simp
    | cons a r ih => intro acc; rw [List.foldl_cons, ih]; simp
  have := fold_loop xs F (fun acc x => acc ++ [g x]) (fun acc k => acc.length = k) fin hF (fun acc k hk hi => by simp [hi]) hE [] rfl
  rw [this, e]
  simp
/-- downward -/
theorem down_loop (xs : List α) (F : β → Int → Option γ) (f : β → α → β) (fin : β → Option γ) (hF : ∀ (b : β) (k : Nat) (hk : k < xs.length), F b k = F (f b xs[k]) ((k : Int) - 1)) (hE : ∀ b, F b (-1) = fin b) (b : β) : F b ((xs.length : Int) - 1) = fin (xs.reverse.foldl f b) := by
  have key : ∀ m b, m ≤ xs.length → F b ((m : Int) - 1) = fin ((xs.take m).reverse.foldl f b) := by
    intro m
    induction m with
    | zero => intro b _; simpa using hE b
    | succ m ih =>
      intro b hm
      have hlt : m < xs.length := by omega
      have e : xs.take (m + 1) = xs.take m ++ [xs[m]] := by rw [List.take_add_one, List.getElem?_eq_getElem hlt]; rfl
      rw [show (((m + 1 : Nat) : Int) - 1) = (m : Int) by omega, hF b m hlt, ih _ (by omega), e, List.reverse_append]
      rfl
  have := key xs.length b (Nat.le_refl _)
  rwa [List.take_length] at this
/-- lists, compared element by element -/
theorem equal_loop (a b : List α) (hl : a.length = b.length) (F : Int → Option Bool) (hF : ∀ (k : Nat) (ha : k < a.length) (hb : k < b.length), (a[k] ≠ b[k] → F k = some false) ∧ (a[k] = b[k] → F k = F ((k + 1 : Nat) : Int))) (hE : F a.length = some true) :
    ∃ r, F 0 = some r ∧ (r = true ↔ a = b) := by
  have key : ∀ m k : Nat, k + m = a.length → ∃ r, F k = some r ∧ (r = true ↔ a.drop k = b.drop k) := by
    intro m
    induction m with
    | zero =>
      intro k hk
      refine ⟨true, by rw [show k = a.length by omega, hE], ?_⟩
      rw [List.drop_of_length_le (by omega), List.drop_of_length_le (by omega)]
      simp
    | succ m ih =>
      intro k hk
      have ha : k < a.length := by omega
      have hb : k < b.length := by omega
      rw [List.drop_eq_getElem_cons ha, List.drop_eq_getElem_cons hb]
      by_cases h : a[k] = b[k]
      · obtain ⟨r, h1, h2⟩ := ih (k + 1) (by omega)
        exact ⟨r, by rw [(hF k ha hb).2 h, h1], by rw [h2, h]; simp only [List.cons.injEq, true_and]⟩
      · exact ⟨false, (hF k ha hb).1 h, by simp only [List.cons.injEq, h, false_and, Bool.false_eq_true]⟩
  obtain ⟨r, h1, h2⟩ := key a.length 0 (by omega)
  exact ⟨r, h1, by simpa using h2⟩
theorem findIdx_ge (xs : List α) (p : α → Bool) : decide (pos1 (xs.findIdx? p) ≥ 0) = xs.any p := by
  induction xs with
  | nil => rfl
  | cons a r ih =>
    rw [List.findIdx?_cons, List.any_cons]
    cases h : p a with
    | true => rfl
    | false =>
      simp only [Bool.false_eq_true, if_false, Bool.false_or]
      rw [← ih]
      cases r.findIdx? p with
      | none => rfl
      | some k => exact (decide_eq_true (by show ((k + 1 : Nat) : Int) ≥ 0; omega)).trans (decide_eq_true (by show ((k : Nat) : Int) ≥ 0; omega)).symm
end
end Go.Sk

/- Texts, tests that meet again, decided equalities. -/
set_option linter.unusedVariables false
namespace Go.Sk
theorem toList_inj {a b : ByteArray} (h : a.toList = b.toList) : a = b := by
  rw [ByteArray.toList_eq, ByteArray.toList_eq] at h
  exact ByteArray.ext (Array.toList_inj.1 h)
theorem toList_beq (a b : ByteArray) : (a.toList == b.toList) = decide (a = b) := by
  by_cases h : a = b
  · rw [h, decide_eq_true rfl]; exact beq_self_eq_true _
  · rw [decide_eq_false h]; exact beq_eq_false_iff_ne.2 fun e => h (toList_inj e)
theorem size_zero {s : ByteArray} : s = { data := #[] } ↔ s.size = 0 := by
  constructor
  · intro h; rw [h]; rfl
  · intro h
    obtain ⟨d⟩ := s
    have hd : d.size = 0 := h
    rw [Array.eq_empty_of_size_eq_zero hd]
theorem empty_iff (s : ByteArray) : (ByteArray.toList s == ByteArray.toList { data := #[] }) = decide (s.size = 0) := by
  rw [toList_beq]
  exact decide_eq_decide.2 size_zero
theorem byteAt_nat (s : ByteArray) (k : Nat) (hk : k < s.size) : byteAt s (k : Int) = some (s[k].toNat : Int) := by
  unfold byteAt
  rw [if_pos (by omega), Int.toNat_natCast, getElem?_pos s k hk]
  rfl
theorem dec_le (a b : Int) : decide (a ≤ b) = !decide (b < a) := by
  by_cases h : a ≤ b
  · rw [decide_eq_true h, decide_eq_false (by omega)]; rfl
  · rw [decide_eq_false h, decide_eq_true (by omega)]; rfl
theorem bne_beq {α : Type} [BEq α] (a b : α) : (a != b) = !(a == b) := rfl
theorem c1 (a b : Bool) : (bif a then some b else some false) = some (a && b) := by cases a <;> rfl
theorem c2 (a b : Bool) : (bif a then some true else some b) = some (a || b) := by cases a <;> rfl
theorem c3 (a x y : Bool) : (bif a then some y else some (x && y)) = some ((a || x) && y) := by cases a <;> cases x <;> rfl
theorem c4 (a b : Bool) : (bif a then some false else some b) = some (!a && b) := by cases a <;> rfl
theorem some_iff {r : Bool} {p : Prop} [Decidable p] (h : r = true ↔ p) : some r = some (decide p) := by
  congr 1
  cases r with
  | true => exact (decide_eq_true (h.1 rfl)).symm
  | false => exact (decide_eq_false fun hp => by cases h.2 hp).symm
theorem len_ne {α β : Type} (a : List α) (b : List β) : (((a.length : Int) != (b.length : Int)) = true ↔ a.length ≠ b.length) := by
  simp only [bne_iff_ne, ne_eq]
  omega
theorem len_eq {α β : Type} {a : List α} {b : List β} (h : ((a.length : Int) != (b.length : Int)) = false) : a.length = b.length := by
  have := len_ne a b
  rw [h] at this
  simpa using this
theorem cast_beq (n m : Nat) : (((n : Nat) : Int) == ((m : Nat) : Int)) = (n == m) := by
  by_cases h : n = m
  · simp [h]
  · rw [beq_eq_false_iff_ne.2 h, beq_eq_false_iff_ne.2 (by omega)]
theorem beq_dec {α : Type} [DecidableEq α] (a b : α) : (a == b) = decide (a = b) := rfl
theorem bne_dec {α : Type} [DecidableEq α] (a b : α) : (a != b) = !decide (a = b) := rfl
theorem prev_idx {α : Type} (l : List α) (k : Nat) (hk : k < l.length) (hl : l.length ≤ 9223372036854775807) (h0 : 0 < k) : idx l (IntKind.i64.wrap ((k : Int) - 1)) = some (l[k - 1]'(by omega)) := by
  rw [wr_in (by omega) (by omega), show (k : Int) - 1 = ((k - 1 : Nat) : Int) by omega, idx_nat, List.getElem?_eq_getElem (by omega)]
/-- two lists, compared element by element, each with a function -/
theorem equal_fun {α : Type} [DecidableEq α] {eqf : α → α → Option Bool} (a b : List α) (ha : ∀ x ∈ a, ∀ y, eqf x y = some (decide (x = y))) (F : Int → Option Bool) (hl : a.length = b.length)
    (hF : ∀ (k : Nat) (h1 : k < a.length) (h2 : k < b.length), F k = (eqf a[k] b[k]).bind fun r => bif !r then some false else F ((k + 1 : Nat) : Int)) (hE : F a.length = some true) : F 0 = some (decide (a = b)) := by
  obtain ⟨r, h1, h2⟩ := equal_loop a b hl F (fun k h1 h2 => by
    rw [hF k h1 h2, ha _ (List.getElem_mem h1)]
    exact ⟨fun h => by rw [decide_eq_false h]; rfl, fun h => by rw [decide_eq_true h]; rfl⟩) hE
  exact h1.trans (some_iff h2)
end Go.Sk

/- Ordered sets of texts: a map's keys, sorted, and what is inserted one by one, are one list. -/
set_option linter.unusedVariables false
namespace Go.Sk
open Go
/-- texts in their order -/
abbrev tb (a : ByteArray) : List UInt8 := a.data.toList
theorem tb_inj {a b : ByteArray} (h : tb a = tb b) : a = b := ByteArray.ext (Array.toList_inj.1 h)
theorem less_lt (a b : ByteArray) : Go.Op.bytesLess a.toList b.toList = decide (tb a < tb b) := by
  rw [Go.Proofs.bytesLess_eq, ByteArray.toList_eq, ByteArray.toList_eq]
theorem tb_irrefl (a : List UInt8) : ¬ a < a := List.lt_irrefl a
theorem tb_trans {a b c : List UInt8} (h : a < b) (h' : b < c) : a < c := List.lt_trans h h'
theorem tb_le {a b : List UInt8} : a ≤ b ↔ ¬ b < a := Iff.rfl
theorem tb_eq {a b : List UInt8} (h : ¬ a < b) (h' : ¬ b < a) : a = b := List.le_antisymm h' h
theorem tb_tri {a b : List UInt8} (h : ¬ a < b) (hne : a ≠ b) : b < a := Classical.byContradiction fun h' => hne (tb_eq h h')
/-- not e ≤ s -/
theorem above (e s : ByteArray) : (!(Go.Op.bytesLess e.toList s.toList || e.toList == s.toList)) = decide (tb s < tb e) := by
  rw [less_lt, toList_beq]
  by_cases h1 : tb s < tb e
  · rw [decide_eq_true h1, decide_eq_false fun h => tb_irrefl _ (tb_trans h h1), decide_eq_false fun h => tb_irrefl _ (by subst h; exact h1)]
    rfl
  · rw [decide_eq_false h1]
    by_cases h2 : e = s
    · rw [decide_eq_true h2]; simp
    · rw [decide_eq_true (tb_tri h1 fun h => h2 (tb_inj h.symm))]; rfl

def Asc (l : List ByteArray) : Prop := l.Pairwise fun a b => tb a < tb b
theorem Asc.nodup {l : List ByteArray} (h : Asc l) : l.Nodup := List.Pairwise.imp (fun {a b} hab e => by subst e; exact tb_irrefl _ hab) h
theorem asc_unique {l l' : List ByteArray} (h : Asc l) (h' : Asc l') (hm : ∀ x, x ∈ l ↔ x ∈ l') : l = l' :=
  List.Perm.eq_of_pairwise (le := fun a b => tb a < tb b) (fun a b _ _ h1 h2 => absurd (tb_trans h1 h2) (tb_irrefl _)) h h' ((List.perm_ext_iff_of_nodup h.nodup h'.nodup).2 hm)
theorem sortTexts_mem {l : List ByteArray} {x : ByteArray} : x ∈ sortTexts l ↔ x ∈ l := List.mem_mergeSort
theorem sortTexts_len (l : List ByteArray) : (sortTexts l).length = l.length := List.length_mergeSort _
theorem sortTexts_asc {l : List ByteArray} (h : l.Nodup) : Asc (sortTexts l) := by
  have tr : ∀ a b c : ByteArray, decide (tb a ≤ tb b) = true → decide (tb b ≤ tb c) = true → decide (tb a ≤ tb c) = true := fun a b c h1 h2 => by
    simp only [decide_eq_true_eq] at *
    exact List.le_trans h1 h2
  have to : ∀ a b : ByteArray, (decide (tb a ≤ tb b) || decide (tb b ≤ tb a)) = true := fun a b => by
    simp only [Bool.or_eq_true, decide_eq_true_eq]
    exact List.le_total _ _
  have h1 := List.pairwise_mergeSort tr to l
  have h2 : (sortTexts l).Nodup := (List.mergeSort_perm l _).nodup_iff.2 h
  refine List.Pairwise.imp (fun {a b} hab => ?_) (List.pairwise_and_iff.2 ⟨h1, h2⟩)
  obtain ⟨h3, h4⟩ := hab
  simp only [decide_eq_true_eq] at h3
  exact tb_tri h3 fun e => h4 (tb_inj e.symm)

/-- a text put into its place -/
def insT (s : ByteArray) : List ByteArray → List ByteArray
  | [] => [s]
  | e :: r => if tb s < tb e then s :: e :: r else e :: insT s r
theorem insT_mem {s x : ByteArray} : ∀ {l : List ByteArray}, x ∈ insT s l ↔ x = s ∨ x ∈ l
  | [] => by simp [insT]
  | e :: r => by
    unfold insT
    split
    · simp
    · simp only [List.mem_cons, insT_mem (l := r)]
      constructor
      · rintro (h | h | h) <;> simp [h]
      · rintro (h | h | h) <;> simp [h]
theorem insT_len (s : ByteArray) : ∀ (l : List ByteArray), (insT s l).length = l.length + 1
  | [] => rfl
  | e :: r => by
    unfold insT
    split
    · rfl
    · simp [insT_len s r]
theorem insT_asc {s : ByteArray} : ∀ {l : List ByteArray}, Asc l → s ∉ l → Asc (insT s l)
  | [], _, _ => List.pairwise_singleton _ _
  | e :: r, h, hs => by
    obtain ⟨h1, h2⟩ := List.pairwise_cons.1 h
    unfold insT
    split
    · rename_i hlt
      exact List.pairwise_cons.2 ⟨fun x hx => by
        rcases List.mem_cons.1 hx with rfl | hx
        · exact hlt
        · exact tb_trans hlt (h1 x hx), h⟩
    · rename_i hge
      have hne : s ≠ e := fun e1 => hs (by simp [e1])
      exact List.pairwise_cons.2 ⟨fun x hx => by
        rcases insT_mem.1 hx with rfl | hx
        · exact tb_tri hge fun e1 => hne (tb_inj e1)
        · exact h1 x hx, insT_asc (l := r) h2 fun h3 => hs (by simp [h3])⟩
/-- where it is put -/
theorem insT_find (s : ByteArray) : ∀ (l : List ByteArray), insT s l = match l.findIdx? (fun e => decide (tb s < tb e)) with
    | some i => l.take i ++ [s] ++ l.drop i
    | none => l ++ [s]
  | [] => rfl
  | e :: r => by
    unfold insT
    rw [List.findIdx?_cons]
    by_cases h : tb s < tb e
    · rw [if_pos h, decide_eq_true h]
      rfl
    · rw [if_neg h, decide_eq_false h, insT_find s r]
      cases r.findIdx? (fun e => decide (tb s < tb e)) <;> rfl
/-- is it one of them? -/
def hasT (l : List ByteArray) (s : ByteArray) : Bool := l.any fun e => decide (e = s)
theorem hasT_iff {l : List ByteArray} {s : ByteArray} : hasT l s = true ↔ s ∈ l := by
  unfold hasT
  rw [List.any_eq_true]
  constructor
  · rintro ⟨x, h1, h2⟩
    rw [decide_eq_true_eq] at h2
    exact h2 ▸ h1
  · exact fun h => ⟨s, h, decide_eq_true rfl⟩
instance (s : ByteArray) (l : List ByteArray) : Decidable (s ∈ l) := decidable_of_iff _ (hasT_iff (l := l) (s := s))
theorem hasT_dec (l : List ByteArray) (s : ByteArray) : hasT l s = decide (s ∈ l) := by
  by_cases h : s ∈ l
  · rw [decide_eq_true h]; exact hasT_iff.2 h
  · rw [decide_eq_false h]; exact Bool.eq_false_iff.2 fun h1 => h (hasT_iff.1 h1)
def withT (l : List ByteArray) (s : ByteArray) : List ByteArray := if s ∈ l then l else insT s l
theorem withT_mem {l : List ByteArray} {s x : ByteArray} : x ∈ withT l s ↔ x ∈ l ∨ x = s := by
  unfold withT
  split
  · rename_i h
    constructor
    · exact .inl
    · rintro (h1 | rfl)
      · exact h1
      · exact h
  · rw [insT_mem]; exact Or.comm
theorem withT_asc {l : List ByteArray} {s : ByteArray} (h : Asc l) : Asc (withT l s) := by
  unfold withT
  split
  · exact h
  · rename_i hs; exact insT_asc h hs
theorem withT_len (l : List ByteArray) (s : ByteArray) : (withT l s).length ≤ l.length + 1 := by
  unfold withT
  split
  · omega
  · rw [insT_len]; omega
theorem foldW_asc : ∀ (ss l : List ByteArray), Asc l → Asc (ss.foldl withT l)
  | [], l, h => h
  | s :: r, l, h => foldW_asc r _ (withT_asc h)
theorem foldW_mem {x : ByteArray} : ∀ (ss l : List ByteArray), x ∈ ss.foldl withT l ↔ x ∈ l ∨ x ∈ ss
  | [], l => by simp
  | s :: r, l => by
    rw [List.foldl_cons, foldW_mem r, withT_mem, List.mem_cons]
    constructor
    · rintro ((h | h) | h) <;> simp [h]
    · rintro (h | h | h) <;> simp [h]
theorem foldW_len : ∀ (ss l : List ByteArray), (ss.foldl withT l).length ≤ l.length + ss.length
  | [], l => by simp
  | s :: r, l => by
    have := foldW_len r (withT l s)
    have := withT_len l s
    simp only [List.foldl_cons, List.length_cons]
    omega

/-! ### sets as maps from texts to true -/
structure SetOf (es : List (ByteArray × Bool)) : Prop where
  nd : (es.map (·.1)).Nodup
  tr : ∀ p ∈ es, p.2 = true
theorem SetOf.nil : SetOf [] := ⟨List.nodup_nil, fun p hp => by simp at hp⟩
theorem eqE_str (a b : ByteArray) : eqE .str a b = decide (a = b) := by
  show (a == b) = _
  obtain ⟨x⟩ := a
  obtain ⟨y⟩ := b
  show (x == y) = _
  by_cases h : x = y
  · rw [decide_eq_true (by rw [h])]; exact beq_iff_eq.2 h
  · rw [decide_eq_false fun e => h (ByteArray.mk.inj e)]; exact beq_eq_false_iff_ne.2 h
theorem mapSet_keys (k : ByteArray) : ∀ (es : List (ByteArray × Bool)), (mapSet .str .bool es k true).map (·.1) = if k ∈ es.map (·.1) then es.map (·.1) else es.map (·.1) ++ [k]
  | [] => by simp [mapSet]
  | p :: r => by
    unfold mapSet
    rw [eqE_str]
    by_cases h : k = p.1
    · rw [decide_eq_true h, cond_true, if_pos (by simp [h])]
      rfl
    · rw [decide_eq_false h, cond_false, List.map_cons, mapSet_keys k r]
      by_cases h2 : k ∈ r.map (·.1)
      · rw [if_pos h2, if_pos (by simp only [List.map_cons, List.mem_cons]; exact .inr h2)]
        rfl
      · rw [if_neg h2, if_neg (by simp only [List.map_cons, List.mem_cons]; rintro (h3 | h3); exact h h3; exact h2 h3)]
        rfl
theorem mapSet_vals (k : ByteArray) : ∀ (es : List (ByteArray × Bool)), (∀ p ∈ es, p.2 = true) → ∀ p ∈ mapSet .str .bool es k true, p.2 = true
  | [], _, p, hp => by simp [mapSet] at hp; rw [hp]
  | q :: r, h, p, hp => by
    unfold mapSet at hp
    rw [eqE_str] at hp
    by_cases h1 : k = q.1
    · rw [decide_eq_true h1, cond_true] at hp
      rcases List.mem_cons.1 hp with rfl | hp
      · rfl
      · exact h p (List.mem_cons_of_mem _ hp)
    · rw [decide_eq_false h1, cond_false] at hp
      rcases List.mem_cons.1 hp with rfl | hp
      · exact h _ List.mem_cons_self
      · exact mapSet_vals k r (fun p hp => h p (List.mem_cons_of_mem _ hp)) p hp
theorem SetOf.set {es : List (ByteArray × Bool)} (h : SetOf es) (k : ByteArray) : SetOf (mapSet .str .bool es k true) := by
  refine ⟨?_, mapSet_vals k es h.tr⟩
  rw [mapSet_keys]
  split
  · exact h.nd
  · rename_i hk
    rw [List.nodup_append]
    exact ⟨h.nd, by simp, fun a ha b hb e => hk (by simp at hb; subst hb; subst e; exact ha)⟩
theorem set_mem {es : List (ByteArray × Bool)} {k x : ByteArray} : x ∈ (mapSet .str .bool es k true).map (·.1) ↔ x ∈ es.map (·.1) ∨ x = k := by
  rw [mapSet_keys]
  split
  · rename_i hk
    constructor
    · exact .inl
    · rintro (h1 | rfl)
      · exact h1
      · exact hk
  · rw [List.mem_append, List.mem_singleton]
theorem set_len (es : List (ByteArray × Bool)) (k : ByteArray) : (mapSet .str .bool es k true).length ≤ es.length + 1 := by
  have := congrArg List.length (mapSet_keys k es)
  rw [List.length_map] at this
  rw [this]
  split <;> simp
theorem SetOf.find {es : List (ByteArray × Bool)} (h : SetOf es) (k : ByteArray) : (mapFind .str .bool es k).getD false = decide (k ∈ es.map (·.1)) := by
  have tr := h.tr
  clear h
  induction es with
  | nil => simp [mapFind]
  | cons p r ih =>
    unfold mapFind
    rw [eqE_str]
    by_cases h1 : k = p.1
    · rw [decide_eq_true h1, cond_true, decide_eq_true (by simp [h1])]
      exact tr p List.mem_cons_self
    · rw [decide_eq_false h1, cond_false, ih fun p hp => tr p (List.mem_cons_of_mem _ hp)]
      exact decide_eq_decide.2 (by simp only [List.map_cons, List.mem_cons]; exact ⟨.inr, fun h => h.resolve_left h1⟩)
abbrev setAll (ss : List ByteArray) (es : List (ByteArray × Bool)) : List (ByteArray × Bool) := ss.foldl (fun es k => mapSet .str .bool es k true) es
theorem setAll_ok : ∀ (ss : List ByteArray) (es : List (ByteArray × Bool)), SetOf es → SetOf (setAll ss es)
  | [], es, h => h
  | s :: r, es, h => setAll_ok r _ (h.set s)
theorem setAll_mem {x : ByteArray} : ∀ (ss : List ByteArray) (es : List (ByteArray × Bool)), x ∈ (setAll ss es).map (·.1) ↔ x ∈ es.map (·.1) ∨ x ∈ ss
  | [], es => by simp
  | s :: r, es => by
    show x ∈ (setAll r (mapSet .str .bool es s true)).map (·.1) ↔ _
    rw [setAll_mem r, set_mem, List.mem_cons, or_assoc]
theorem setAll_len : ∀ (ss : List ByteArray) (es : List (ByteArray × Bool)), (setAll ss es).length ≤ es.length + ss.length
  | [], es => by simp
  | s :: r, es => by
    have h1 := setAll_len r (mapSet .str .bool es s true)
    have h2 := set_len es s
    show (setAll r (mapSet .str .bool es s true)).length ≤ _
    simp only [List.length_cons]
    omega
/-- a set's keys, sorted, are what its texts come to when they are put in one by one -/
theorem keys_with (ss : List ByteArray) : sortTexts ((setAll ss []).map (·.1)) = ss.foldl withT [] :=
  asc_unique (sortTexts_asc (setAll_ok ss [] .nil).nd) (foldW_asc ss [] List.Pairwise.nil) fun x => by
    rw [sortTexts_mem, setAll_mem, foldW_mem]
    simp
def first1 {α γ : Type} (g : α → γ) (d : γ) : Option α → γ
  | some x => g x
  | none => d
/-- the first element of which a test holds -/
theorem find1_loop {α γ : Type} (xs : List α) (F : Int → Option γ) (p : α → Bool) (g : α → γ) (d : γ) (hF : ∀ (k : Nat) (hk : k < xs.length), F k = bif p xs[k] then some (g xs[k]) else F ((k + 1 : Nat) : Int)) (hE : F xs.length = some d) :
    F 0 = some (first1 g d (xs.find? p)) := by
  have key : ∀ m k : Nat, k + m = xs.length → F k = some (first1 g d ((xs.drop k).find? p)) := by
    intro m
    induction m with
    | zero => intro k hk; rw [show k = xs.length by omega, hE, List.drop_length]; rfl
    | succ m ih =>
      intro k hk
      have hlt : k < xs.length := by omega
      rw [hF k hlt, List.drop_eq_getElem_cons hlt, List.find?_cons]
      cases p xs[k] with
      | true => rfl
      | false => exact ih (k + 1) (by omega)
  exact key xs.length 0 (by omega)
end Go.Sk

/- A law's arguments, as values of codes. -/
set_option linter.unusedSimpArgs false
set_option linter.unusedVariables false
set_option linter.unusedSectionVars false
namespace Go.Sk
open Go

/-- the bytes that a value of a code takes up at least -/
def cb : Ty → Nat
  | .bool => 1
  | .int k => k.bits / 8
  | .str => 16
  | .unit => 0
  | .pair a b => cb a + cb b
  | .slice _ => 24
mutual
/-- no slice in it has more than B elements -/
def shortD {H : Type} (B : Nat) : DataW H → Prop
  | .slice elems _ => elems.length ≤ B ∧ shortAll B elems
  | .agg parts => shortAll B parts
  | _ => True
def shortAll {H : Type} (B : Nat) : List (DataW H) → Prop
  | [] => True
  | d :: r => shortD B d ∧ shortAll B r
end
theorem shortAll_mem {H : Type} {B : Nat} : ∀ {l : List (DataW H)} {d : DataW H}, shortAll B l → d ∈ l → shortD B d
  | [], d, _, h => by simp at h
  | x :: r, d, hs, h => by
    unfold shortAll at hs
    rcases List.mem_cons.1 h with rfl | h
    · exact hs.1
    · exact shortAll_mem hs.2 h
/-- integers within their kinds; slices of at most B elements, no longer than the form's reach -/
def FitsB (B : Nat) : (t : Ty) → El t → Prop
  | .bool, _ => True
  | .int k, n => k.min ≤ n ∧ n ≤ k.max
  | .str, s => s.size ≤ 9223372036854775807
  | .unit, _ => True
  | .pair a b, x => FitsB B a x.1 ∧ FitsB B b x.2
  | .slice t, xs => (List.length (α := El t) xs ≤ B ∧ List.length (α := El t) xs * cb t ≤ reachBytes) ∧ ∀ x ∈ (show List (El t) from xs), FitsB B t x
abbrev Fits (t : Ty) (x : El t) : Prop := FitsB 9223372036854775807 t x

/-- the fields of a struct lie one behind another, and have cells -/
def layOk (P : Program) : Nat → TypeId → Bool
  | 0, _ => false
  | d + 1, t =>
    match P.underlying t with
    | some .bool | some (.int _) | some .string => true
    | some (.slice e) => layOk P d e && (match tyOf P d e with | some c => c.size == P.cellsOf e && decide (0 < c.size) && decide (cb c ≤ P.bytesOf e) | none => false)
    | some (.struct fs) => fieldsOk P (layOk P d) (tyOf P d) 0 fs.toList (P.cellsOf t)
    | _ => false
where
  fieldsOk (P : Program) (ok : TypeId → Bool) (ty : TypeId → Option Ty) : Nat → List Field → Nat → Bool
    | off, [], total => off == total
    | off, f :: r, total => f.offset == off && ok f.type && (match ty f.type with | some c => c.size == P.cellsOf f.type | none => false) && fieldsOk P ok ty (off + P.cellsOf f.type) r total

section
variable {H : Type} {enc : TypeId × Value → H} {P : Program} {w : World} {base : Nat} {spare : Nat → Bool} {held : Bool}

theorem list_of {α : Type} {p : Nat → α → Prop} : ∀ (n : Nat), (∀ i, i < n → ∃ x, p i x) → ∃ xs : List α, xs.length = n ∧ ∀ (k : Nat) y, xs[k]? = some y → p k y
  | 0, _ => ⟨[], rfl, by simp⟩
  | n + 1, h => by
    obtain ⟨xs, h1, h2⟩ := list_of n fun i hi => h i (by omega)
    obtain ⟨y, h3⟩ := h n (by omega)
    refine ⟨xs ++ [y], by simp [h1], fun k z hk => ?_⟩
    by_cases hlt : k < xs.length
    · rw [List.getElem?_append_left hlt] at hk
      exact h2 k z hk
    · rw [List.getElem?_append_right (by omega)] at hk
      have e : k = xs.length := by
        have := (List.getElem?_eq_some_iff.1 hk).1
        simp at this
        omega
      subst e
      simp at hk
      subst hk
      rw [h1]
      exact h3
theorem weightsAll_mem {e : TypeId} {d : DataW H} {n : Nat} (hn : n ∈ d.weights P e) : ∀ {l : List (DataW H)}, d ∈ l → n ∈ DataW.weightsAll P e l
  | [], h => by simp at h
  | x :: r, h => by
    simp only [DataW.weightsAll, List.mem_append]
    rcases List.mem_cons.1 h with rfl | h
    · exact .inl hn
    · exact .inr (weightsAll_mem hn h)
theorem open_ty {B : Nat} : ∀ (d : Nat) (t : TypeId) (c : Ty), layOk P d t = true → tyOf P d t = some c → ∀ (fuel : Nat) (cs : List Value) (x : DataW H × List MemPlace), DataW.trod enc P w base spare held fuel t cs = some x → (∀ m ∈ x.1.weights P t, m ≤ reachBytes) → (B = 9223372036854775807 ∨ shortD B x.1) →
    ∃ e : El c, RepE w (fun b => b < w.heap.size) c e cs ∧ FitsB B c e := by
  intro d
  induction d with
  | zero => intro t c hl; cases hl
  | succ d ih =>
    intro t c hl hc fuel cs x hx hw hS
    cases fuel with
    | zero => cases hx
    | succ fuel =>
      unfold layOk at hl
      unfold tyOf at hc
      cases hu : P.underlying t with
      | none => rw [hu] at hl; cases hl
      | some D =>
        rw [hu] at hl hc
        cases D <;> simp only at hl hc <;> try (cases hl; done)
        case bool =>
          cases hc
          unfold DataW.trod at hx
          rw [hu] at hx
          simp only at hx
          split at hx <;> try (cases hx; done)
          all_goals (rename_i heq; try (cases heq; done))
          rename_i b
          exact ⟨b, rfl, trivial⟩
        case int k =>
          cases hc
          unfold DataW.trod at hx
          rw [hu] at hx
          simp only at hx
          split at hx <;> try (cases hx; done)
          all_goals (rename_i heq; try (cases heq; done))
          cases heq
          rename_i k' n
          split at hx
          · rename_i hk
            obtain ⟨rfl, hwf⟩ := hk
            refine ⟨n, rfl, ?_⟩
            simp [Lit.wf] at hwf
            exact hwf
          · cases hx
        case string =>
          cases hc
          unfold DataW.trod at hx
          rw [hu] at hx
          simp only at hx
          split at hx <;> try (cases hx; done)
          all_goals (rename_i heq; try (cases heq; done))
          rename_i s
          split at hx
          · rename_i hs
            exact ⟨s, rfl, show s.size ≤ 9223372036854775807 by simpa [maxLen] using hs⟩
          · cases hx
        case slice e =>
          cases hce : tyOf P d e with
          | none => rw [hce] at hc; cases hc
          | some ce =>
            rw [hce] at hc hl
            simp only [Option.map_some, Option.some.injEq] at hc
            subst hc
            simp only [Bool.and_eq_true, beq_iff_eq, decide_eq_true_eq] at hl
            obtain ⟨hle, ⟨hsz, hpos⟩, hcb⟩ := hl
            rcases Go.Deep.open_slice hu hx with ⟨rfl, _⟩ | ⟨a, len, cap, m, n, D, Pl, rfl, hb, hlc, hmax, hm, hxe, hel⟩
            · exact ⟨[], ⟨none, 0, rfl, Nat.le_refl _, .inl rfl⟩, ⟨Nat.zero_le _, by simp⟩, by simp⟩
            · have hlm : len ≤ m := by rw [hm]; split <;> omega
              have hx1 : x.1 = .slice ((List.range len).map D) ((List.range (m - len)).map fun j => D (len + j)) := congrArg Prod.fst hxe
              have hwd : ∀ i, i < len → ∀ q ∈ (D i).weights P e, q ≤ reachBytes := fun i hi q hq => hw q (by
                rw [hx1]
                unfold DataW.weights
                rw [hu]
                refine List.mem_cons_of_mem _ (List.mem_append.2 (.inl (weightsAll_mem hq (List.mem_map.2 ⟨i, List.mem_range.2 hi, rfl⟩))))) 
              have hSd : ∀ i, i < len → (B = 9223372036854775807 ∨ shortD B (D i)) := fun i hi => hS.imp id fun h => by
                rw [hx1] at h
                unfold shortD at h
                exact shortAll_mem h.2 (List.mem_map.2 ⟨i, List.mem_range.2 hi, rfl⟩)
              have hSl : len ≤ B := by
                rcases hS with h | h
                · simp [maxLen] at hmax; omega
                · rw [hx1] at h
                  unfold shortD at h
                  have := h.1
                  simpa using this
              have hwl : len * cb ce ≤ reachBytes := by
                have := hw _ (by rw [hx1]; unfold DataW.weights; rw [hu]; exact List.mem_cons_self ..)
                simp only [List.length_map, List.length_range] at this
                exact Nat.le_trans (Nat.mul_le_mul (Nat.le_add_right _ _) hcb) this
              have key : ∀ i, i < len → ∃ e' : El ce, ∃ us : List Value, us.length = ce.size ∧ RepE w (fun b => b < w.heap.size) ce e' us ∧ FitsB B ce e' ∧ ∀ (j : Nat) u, us[j]? = some u → w.cell? (a.add (i * ce.size + j)) = some u := by
                intro i hi
                obtain ⟨cs', h1, h2⟩ := hel i (by omega)
                obtain ⟨e', h3, h4⟩ := ih e ce hle hce n cs' _ h2 (hwd i hi) (hSd i hi)
                obtain ⟨_, h5, h6⟩ := World.cells?_some h1
                refine ⟨e', cs', h3.length, h3, h4, fun j u hj => ?_⟩
                have hjl : j < P.cellsOf e := by rw [← h5]; exact (List.getElem?_eq_some_iff.1 hj).1
                have := h6 j hjl
                rw [hj, hsz] at *
                rw [← this]
                congr 1
                unfold Addr.add
                by_cases hi0 : i * P.cellsOf e = 0
                · simp [hi0]
                · by_cases hj0 : j = 0
                  · simp [hj0, hi0]
                  · have : ¬ (i * P.cellsOf e + j = 0) := by omega
                    simp [hi0, hj0, this, Nat.add_assoc]
              obtain ⟨xs, hxl, hxs⟩ : ∃ xs : List (El ce), xs.length = len ∧ ∀ (k : Nat) y, xs[k]? = some y → ∃ us : List Value, us.length = ce.size ∧ RepE w (fun b => b < w.heap.size) ce y us ∧ FitsB B ce y ∧ ∀ (j : Nat) u, us[j]? = some u → w.cell? (a.add (k * ce.size + j)) = some u := by
                exact list_of len key
              subst hxl
              refine ⟨xs, ⟨some a, cap, rfl, hlc, ?_⟩, ⟨hSl, hwl⟩, fun y hy => ?_⟩
              · by_cases h0 : xs = []
                · exact .inl h0
                · have hlen : 0 < xs.length := List.length_pos_iff.2 h0
                  obtain ⟨us, h1, h2, _, h3⟩ := hxs 0 xs[0] (by simp [hlen])
                  have hu0 : us[0]? = some (us[0]'(by omega)) := List.getElem?_eq_getElem (by omega)
                  have hc0 := h3 0 _ hu0
                  have ha0 : a.add (0 * ce.size + 0) = a := by simp [Addr.add]
                  rw [ha0] at hc0
                  obtain ⟨bb, oo, sp⟩ := a
                  have hsp : sp = none := by
                    unfold World.cell? at hc0
                    split at hc0
                    · split at hc0
                      · cases hc0
                      · rename_i hns; simpa using hns
                    · cases hc0
                  subst hsp
                  refine .inr ⟨bb, oo, rfl, ?_, fun k y hk => ?_⟩
                  · show bb < w.heap.size
                    unfold World.cell? at hc0
                    split at hc0
                    · rename_i hh
                      exact (Array.getElem?_eq_some_iff.1 hh).1
                    · cases hc0
                  · obtain ⟨us, g1, g2, _, g3⟩ := hxs k y hk
                    exact ⟨us, g1, g2, fun j u hj => by have := g3 j u hj; rw [addr_add] at this; rwa [Nat.add_assoc]⟩
              · obtain ⟨k, hk⟩ := List.getElem?_of_mem hy
                obtain ⟨us, _, _, g, _⟩ := hxs k y hk
                exact g
        case struct fs =>
          unfold DataW.trod at hx
          rw [hu] at hx
          have hx' : (if cs.length = P.cellsOf t then (fs.toList.mapM fun f => DataW.trod enc P w base spare held fuel f.type ((cs.drop f.offset).take (P.cellsOf f.type))).map fun xs => (DataW.agg (xs.map (·.1)), xs.flatMap (·.2)) else none) = some x := by
            simpa using hx
          clear hx
          split at hx'
          · rename_i hlen
            cases hm : (fs.toList.mapM fun f => DataW.trod enc P w base spare held fuel f.type ((cs.drop f.offset).take (P.cellsOf f.type))) with
            | none => rw [hm] at hx'; cases hx'
            | some ys =>
              have hx1 : x.1 = .agg (ys.map (·.1)) := by
                rw [hm] at hx'
                simp only [Option.map_some, Option.some.injEq] at hx'
                rw [← hx']
              have hwe : ∀ q ∈ DataW.weightsEach P (fs.toList.map (·.type)) (ys.map (·.1)), q ≤ reachBytes := fun q hq => hw q (by
                rw [hx1]
                unfold DataW.weights
                rw [hu]
                exact hq)
              have hse : B = 9223372036854775807 ∨ shortAll B (ys.map (·.1)) := hS.imp id fun h => by
                rw [hx1] at h
                unfold shortD at h
                exact h
              clear hx' hu
              have main : ∀ (l : List Field) (off : Nat) (c : Ty) (ys : List (DataW H × List MemPlace)), layOk.fieldsOk P (layOk P d) (tyOf P d) off l (P.cellsOf t) = true → tyOf.go (l.map fun f => tyOf P d f.type) = some c → off ≤ cs.length →
                  (l.mapM fun f => DataW.trod enc P w base spare held fuel f.type ((cs.drop f.offset).take (P.cellsOf f.type))) = some ys → (∀ q ∈ DataW.weightsEach P (l.map (·.type)) (ys.map (·.1)), q ≤ reachBytes) → (B = 9223372036854775807 ∨ shortAll B (ys.map (·.1))) → ∃ e : El c, RepE w (fun b => b < w.heap.size) c e (cs.drop off) ∧ FitsB B c e := by
                intro l
                induction l with
                | nil =>
                  intro off c ys hok hc hoff hm hwe hse
                  simp only [List.map_nil, tyOf.go, Option.some.injEq] at hc
                  subst hc
                  simp only [layOk.fieldsOk, beq_iff_eq] at hok
                  refine ⟨(), ?_, trivial⟩
                  show cs.drop off = []
                  rw [hok, ← hlen]
                  simp
                | cons f r ihr =>
                  intro off c ys hok hc hoff hm hwe hse
                  simp only [layOk.fieldsOk, Bool.and_eq_true, beq_iff_eq] at hok
                  obtain ⟨⟨⟨h1, h2⟩, h3⟩, h4⟩ := hok
                  rw [List.mapM_cons] at hm
                  cases hf : DataW.trod enc P w base spare held fuel f.type ((cs.drop f.offset).take (P.cellsOf f.type)) with
                  | none => rw [hf] at hm; cases hm
                  | some y =>
                    rw [hf] at hm
                    cases hr : (r.mapM fun f => DataW.trod enc P w base spare held fuel f.type ((cs.drop f.offset).take (P.cellsOf f.type))) with
                    | none => rw [hr] at hm; cases hm
                    | some zs =>
                      have hys : ys = y :: zs := by
                        rw [hr] at hm
                        simpa using hm.symm
                      rw [hys] at hwe hse
                      have hse1 : B = 9223372036854775807 ∨ shortD B y.1 := hse.imp id fun h => by rw [List.map_cons] at h; unfold shortAll at h; exact h.1
                      have hse2 : B = 9223372036854775807 ∨ shortAll B (zs.map (·.1)) := hse.imp id fun h => by rw [List.map_cons] at h; unfold shortAll at h; exact h.2
                      simp only [List.map_cons, DataW.weightsEach, List.mem_append] at hwe
                      cases hcf : tyOf P d f.type with
                      | none => rw [hcf] at h3; cases h3
                      | some cf =>
                        rw [hcf] at h3
                        simp only [beq_iff_eq] at h3
                        obtain ⟨e1, g1, g2⟩ := ih f.type cf h2 hcf fuel _ y hf (fun q hq => hwe q (.inl hq)) hse1
                        have hl1 := g1.length
                        rw [h1] at g1 hl1
                        have hle : off + P.cellsOf f.type ≤ cs.length := by
                          simp only [List.length_take, List.length_drop] at hl1
                          omega
                        cases r with
                        | nil =>
                          simp only [List.map_cons, List.map_nil, tyOf.go, hcf, Option.some.injEq] at hc
                          subst hc
                          simp only [layOk.fieldsOk, beq_iff_eq] at h4
                          refine ⟨e1, ?_, g2⟩
                          have : (cs.drop off).take (P.cellsOf f.type) = cs.drop off := List.take_of_length_le (by simp; omega)
                          rw [this] at g1
                          exact g1
                        | cons f2 r2 =>
                          cases hgo : tyOf.go ((f2 :: r2).map fun f => tyOf P d f.type) with
                          | none =>
                            simp only [List.map_cons, hcf] at hc hgo
                            simp only [tyOf.go, hgo] at hc
                            cases hc
                          | some cr =>
                            have hc' : c = .pair cf cr := by
                              simp only [List.map_cons, hcf] at hc hgo
                              simp only [tyOf.go, hgo, Option.map_some, Option.some.injEq] at hc
                              exact hc.symm
                            subst hc'
                            obtain ⟨e2, g3, g4⟩ := ihr (off + P.cellsOf f.type) cr zs h4 hgo hle hr (fun q hq => hwe q (.inr hq)) hse2
                            refine ⟨(e1, e2), ⟨_, _, ?_, g1, g3⟩, g2, g4⟩
                            rw [← List.drop_drop]
                            exact (List.take_append_drop _ _).symm
              have := main fs.toList 0 c ys hl hc (Nat.zero_le _) hm hwe hse
              simpa using this
          · cases hx'
end
end Go.Sk

/- A frame that begins anew at a world on the way; a block beside the objects; the keys of a map, in whatever order they come. -/
set_option linter.unusedSimpArgs false
set_option linter.unusedVariables false
namespace Go.Sk
open Go

section
variable {X : Fr} {env : List V} {mem : List Obj} {al : Nat → Prop} {tmps : Array Value} {w w' : World} {β : Nat → Value} {ok : Nat → Prop}
/-- the frame of a world on the way -/
def Fr.here (X : Fr) (mem : List Obj) (β : Nat → Value) (w : World) (ok : Nat → Prop) : Fr := ⟨w, ok, fun b => ∃ i, own mem β i = some b, X.rd, X.gh⟩
theorem Inv.rebase (h : Inv X env mem al tmps w β ok) : Inv (X.here mem β w ok) env mem al tmps w β ok :=
  { h with
    gh := fun i hi => h.gh i hi
    apartR := h.apartR
    rdLt := fun b hb => by have := h.rdLt b hb; have := h.grow; show b < w.heap.size; omega
    okOld := fun b hb _ => .inl hb
    ownOld := fun i b hb _ => ⟨i, hb⟩
    keep := fun _ _ _ => rfl
    grow := Nat.le_refl _
    os := rfl
    out := rfl
    tape := rfl }
theorem Inv.unbase (h : Inv X env mem al tmps w β ok) {env' : List V} {mem' : List Obj} {al' : Nat → Prop} {tmps' : Array Value} {β' : Nat → Value} {ok' : Nat → Prop} (h' : Inv (X.here mem β w ok) env' mem' al' tmps' w' β' ok') : Inv X env' mem' al' tmps' w' β' ok' :=
  { h' with
    gh := fun i hi => h'.gh i hi
    apartR := h'.apartR
    rdLt := h.rdLt
    okOld := fun b hb hlt => by
      rcases h'.okOld b hb (by have := h.grow; show b < w.heap.size; omega) with h1 | ⟨i, h1⟩
      · exact h.okOld b h1 hlt
      · exact .inr (h.ownOld i b h1 hlt)
    ownOld := fun i b hb hlt => by
      obtain ⟨j, h1⟩ := h'.ownOld i b hb (by have := h.grow; show b < w.heap.size; omega)
      exact h.ownOld j b h1 hlt
    keep := fun b hb hno => by
      rw [h'.keep b (by have := h.grow; show b < w.heap.size; omega) fun ⟨i, hi⟩ => hno (h.ownOld i b hi hb)]
      exact h.keep b hb hno
    grow := Nat.le_trans h.grow h'.grow
    os := h'.os.trans h.os
    out := h'.out.trans h.out
    tape := h'.tape.trans h.tape }

/-- a block that is no object's -/
structure Beside (X : Fr) (mem : List Obj) (w : World) (β : Nat → Value) (ok : Nat → Prop) (r : Nat) : Prop where
  new : X.w0.heap.size ≤ r
  lt : r < w.heap.size
  ok : ¬ ok r
  own : ∀ i, own mem β i ≠ some r
theorem Inv.beside (h : Inv X env mem al tmps w β ok) {r : Nat} (hr : X.w0.heap.size ≤ r) (hro : ¬ ok r) (hrn : ∀ i, own mem β i ≠ some r) (hheap : ∀ b, b ≠ r → b < w.heap.size → w'.heap[b]? = w.heap[b]?) (hgrow : w.heap.size ≤ w'.heap.size)
    (os : w'.os = w.os) (out : w'.output = w.output) (tape : w'.tape = w.tape) : Inv X env mem al tmps w' β ok := by
  have ext : Ext w ok X.rd β (kds mem) al w' ok β (kds mem) al :=
    ⟨fun b hb => hheap b (fun e => hro (e ▸ hb)) (h.okLt b hb), fun b hb => hheap b (by have := h.rdLt b hb; omega) (by have := h.rdLt b hb; have := h.grow; omega), fun _ h => h, fun _ _ => .inl rfl, fun _ _ _ => rfl, fun _ h => h⟩
  exact { h with
    env := fun t v ht => (h.env t v ht).mono ext
    obj := fun i => ObjRel.mono ext rfl (fun b hb => hheap b (fun e => hrn i (e ▸ hb)) (ownB_lt (h.obj i) hb)) (h.obj i)
    okLt := fun b hb => Nat.lt_of_lt_of_le (h.okLt b hb) hgrow
    keep := fun b hb hno => by
      rw [hheap b (by omega) (by have := h.grow; omega)]
      exact h.keep b hb hno
    grow := Nat.le_trans h.grow hgrow
    os := os.trans h.os
    out := out.trans h.out
    tape := tape.trans h.tape }
/-- a new block beside the objects -/
theorem Inv.newBeside (h : Inv X env mem al tmps w β ok) (o : Go.Obj) : Inv X env mem al tmps (w.alloc o) β ok ∧ Beside X mem (w.alloc o) β ok w.heap.size := by
  have h1 : ¬ ok w.heap.size := fun hb => Nat.lt_irrefl _ (h.okLt _ hb)
  have h2 : ∀ i, own mem β i ≠ some w.heap.size := fun i hb => Nat.lt_irrefl _ (ownB_lt (h.obj i) hb)
  exact ⟨h.beside h.grow h1 h2 (fun b _ hb => heap_alloc_old w o hb) (by rw [size_alloc]; omega) rfl rfl rfl, ⟨h.grow, by rw [size_alloc]; omega, h1, h2⟩⟩
/-- it stays while the frame of a world on the way runs -/
theorem Beside.stays {r : Nat} (hb : Beside X mem w β ok r) {env' : List V} {mem' : List Obj} {al' : Nat → Prop} {tmps' : Array Value} {β' : Nat → Value} {ok' : Nat → Prop} (h' : Inv (X.here mem β w ok) env' mem' al' tmps' w' β' ok') :
    Beside X mem' w' β' ok' r ∧ w'.heap[r]? = w.heap[r]? :=
  ⟨⟨hb.new, Nat.lt_of_lt_of_le hb.lt h'.grow, fun h1 => by
    rcases h'.okOld r h1 hb.lt with h2 | ⟨i, h2⟩
    · exact hb.ok h2
    · exact hb.own i h2, fun i h1 => by
    obtain ⟨j, h2⟩ := h'.ownOld i r h1 hb.lt
    exact hb.own j h2⟩, h'.keep r hb.lt fun ⟨i, h2⟩ => hb.own i h2⟩
end

/-! ### regions by hand -/
section
variable {P : Program} {f : FuncId} {Post : Value → World → Prop}
theorem region_goes {id : Nat} {ops : Array Oper} {todo : List Item} {tmps : Array Value} {w : World} (h : wpOps P ops (QK fun tmps' w' => Goes P f Post todo tmps' w') (List.range ops.size) ⟨tmps, []⟩ w) :
    Goes P f Post (.code (.region id ops false) :: todo) tmps w := by
  intro cs
  obtain ⟨e, a', w', hq, harr⟩ := wp_region (id := id) h (fr0 f) todo cs
  cases e <;> try exact hq.elim
  obtain ⟨hd, hg⟩ := hq
  obtain ⟨v, w1, fr, h1, h2, h3, h4⟩ := hg cs
  rw [act_eta a' hd] at harr
  exact ⟨v, w1, fr, h1, Steps.trans harr h2, h3, h4⟩
theorem wpOps_nil {ops : Array Oper} {Q : Exit → Act → World → Prop} {a : Act} {w : World} (h : Q .normal a w) : wpOps P ops Q [] a w := h
/-- an operation without a guard that yields a value -/
theorem wpOps_value {ops : Array Oper} {Q : Exit → Act → World → Prop} {a : Act} {w w' : World} {i : Nat} {r : List Nat} {o : Oper} (ho : ops[i]? = some o) (hg : o.guard = none) {v : Value}
    (hv : (execOp a.eval o).run P w = .ok (.value v) w') (h : wpOps P ops Q r (a.put o.dst v) w') : wpOps P ops Q (i :: r) a w := by
  unfold wpOps
  rw [ho]
  simp only [Region.wanted, hg, if_true]
  refine .inl ?_
  unfold Oper.wp
  rw [hv]
  exact h
end

section
variable {P : Program} {f : FuncId} {Post : Value → World → Prop} {k : List Item} {tmps : Array Value} {w : World} {c : Code}
theorem Goes.seq' {a b : Code} (e : c = .seq a b) (h : Goes P f Post (.code a :: .code b :: k) tmps w) : Goes P f Post (.code c :: k) tmps w := by
  subst e
  exact h.step fun cs => .one step_seq
theorem Goes.block' {id : Nat} {b : Code} (e : c = .block id b) (h : Goes P f Post (.code b :: .inBlock id :: k) tmps w) : Goes P f Post (.code c :: k) tmps w := by
  subst e
  exact h.step fun cs => .one step_block
theorem Goes.loop' {b : Code} (e : c = .loop b) (h : Goes P f Post (.code b :: .inLoop b :: k) tmps w) : Goes P f Post (.code c :: k) tmps w := by
  subst e
  exact h.step fun cs => .one step_loop
theorem Goes.skip' (h : Goes P f Post k tmps w) : Goes P f Post (.code .skip :: k) tmps w := h.step fun cs => .one step_skip
theorem Goes.exit' {id : Nat} {k' : List Item} (e : exitTo id k = some k') (h : Goes P f Post k' tmps w) : Goes P f Post (.code (.exit id) :: k) tmps w := h.step fun cs => .one (step_exit e)
theorem Goes.cond' {o : Operand} {x y : Code} (e : c = .cond o x y) {t : Bool} (hv : (⟨tmps, []⟩ : Act).eval o = .bool t) (h : Goes P f Post (.code (if t then x else y) :: k) tmps w) : Goes P f Post (.code c :: k) tmps w := by
  subst e
  exact h.step fun cs => .one (step_cond hv)
theorem Goes.region' {id : Nat} {ops : Array Oper} (e : c = .region id ops false) (h : wpOps P ops (QK fun tmps' w' => Goes P f Post k tmps' w') (List.range ops.size) ⟨tmps, []⟩ w) : Goes P f Post (.code c :: k) tmps w := by
  subst e
  exact region_goes h
variable {o : Oper} {a : Act} {w' : World} {x : Operand}
theorem exec_move (h : o.op = .move x) : (execOp a.eval o).run P w = .ok (.value (a.eval x)) w := by
  unfold execOp
  simp only [h]
  rfl
theorem exec_assign (h : o.op = .assign x) : (execOp a.eval o).run P w = .ok (.value (a.eval x)) w := by
  unfold execOp
  simp only [h]
  rfl
theorem exec_next {b : Bool} (h : o.op = .next x b) {v : Value} (hr : (Instr.next (a.eval x) b o.type).run P w = .ok v w') : (execOp a.eval o).run P w = .ok (.value v) w' := by
  unfold execOp
  simp only [h, Sem.run_bind, hr]
  rfl
theorem exec_range {t : TypeId} (h : o.op = .range t x) {v : Value} (hr : (Instr.range t (a.eval x)).run P w = .ok v w') : (execOp a.eval o).run P w = .ok (.value v) w' := by
  unfold execOp
  simp only [h, Sem.run_bind, hr]
  rfl
theorem exec_entry (h : o.op = .entry x) {v : Value} (hr : (Instr.entry (a.eval x)).run P w = .ok v w') : (execOp a.eval o).run P w = .ok (.value v) w' := by
  unfold execOp
  simp only [h, Sem.run_bind, hr]
  rfl
theorem exec_extract {i : Nat} (h : o.op = .extract x i) {us : Array Value} {v : Value} (hx : a.eval x = .tuple us) (hv : us[i]? = some v) : (execOp a.eval o).run P w = .ok (.value v) w := by
  unfold execOp
  simp [h, Instr.extract, hx, hv]
end

/-! ### a segment that ends where it is said to -/
section
variable {P : Program} {R : Type} {call : CallF} {leaf : List KI → St → Option R}
theorem bif_none (b : Bool) : (bif b then (none : Option R) else none) = none := by cases b <;> rfl
theorem settleC_none {c : CV} {m : List Obj} {k : CV → List Obj → Tree} {fin : V → List Obj → Option R} (hk : ∀ c m, (k c m).interp call leaf fin = none) : (settleC c m k).interp call leaf fin = none := by
  unfold settleC
  split
  · split
    · simp only [Tree.interp, hk]
      exact bif_none _
    · simp only [Tree.interp, hk]
      exact bif_none _
    · exact hk _ _
  · exact hk _ _
theorem settleCs_none {fin : V → List Obj → Option R} : ∀ (cs : List CV) (m : List Obj) (k : List CV → List Obj → Tree), (∀ c m, (k c m).interp call leaf fin = none) → (settleCs cs m k).interp call leaf fin = none
  | [], m, k, hk => hk _ _
  | c :: r, m, k, hk => settleC_none fun c m => settleCs_none r m _ fun r m => hk _ _
theorem settleV_none {v : V} {m : List Obj} {k : V → List Obj → Tree} {fin : V → List Obj → Option R} (hk : ∀ c m, (k c m).interp call leaf fin = none) : (settleV v m k).interp call leaf fin = none := by
  cases v with
  | one c => exact settleC_none (k := fun c m => k (.one c) m) fun c m => hk _ _
  | agg cs => exact settleCs_none cs m _ fun c m => hk _ _
  | tup vs => exact hk _ _
theorem settleVs_none {fin : V → List Obj → Option R} : ∀ (vs : List V) (m : List Obj) (k : List V → List Obj → Tree), (∀ c m, (k c m).interp call leaf fin = none) → (settleVs vs m k).interp call leaf fin = none
  | [], m, k, hk => hk _ _
  | v :: r, m, k, hk => settleV_none fun v m => settleVs_none r m _ fun r m => hk _ _
theorem finT_none {fx : Fx} {s : St} : (finT P fx s).interp call leaf (fun _ _ => none) = none := by
  unfold finT
  split
  · exact settleVs_none _ _ _ fun _ _ => rfl
  · rfl
open Classical in
/-- the end of a segment -/
noncomputable def atEnd (ks : List KI) (s : St) (ks' : List KI) (s' : St) : Option Unit := if ks' = ks ∧ s' = s then some () else none
theorem atEnd_self {ks : List KI} {s : St} : atEnd ks s ks s = some () := by unfold atEnd; rw [if_pos ⟨rfl, rfl⟩]
theorem atEnd_spec {ks ks' : List KI} {s s' : St} {x : Unit} (h : atEnd ks s ks' s' = some x) : ks' = ks ∧ s' = s := by
  unfold atEnd at h
  split at h
  · assumption
  · cases h
/-- from here to there -/
theorem to_goes {C : Cfg} {X : Fr} {f : FuncId} {Post : Value → World → Prop} (hm : P.follows .mixedOrders = true) (hcall : CallOk P C call) {fn : Func} (hf : P.funcs[f]? = some fn) {ks ks' : List KI} {s s' : St}
    (h : (seg P C (fxOf P f) segFuel ks s).interp call (atEnd ks' s') (fun _ _ => none) = some ()) {al : Nat → Prop} {tmps : Array Value} {w : World} {β : Nat → Value} {ok : Nat → Prop} (hI : Inv X s.env s.mem al tmps w β ok) (hal : ∀ j, s.mem.length ≤ j → ¬ al j)
    (hk : ∀ {al : Nat → Prop} {tmps : Array Value} {w : World} {β : Nat → Value} {ok : Nat → Prop}, Inv X s'.env s'.mem al tmps w β ok → (∀ j, s'.mem.length ≤ j → ¬ al j) → Goes P f Post (start ks') tmps w) : Goes P f Post (items ks) tmps w :=
  seg_goes (C := C) (X := X) (R := Unit) (PostR := fun _ => Post) (fin := fun _ _ => none) hm hcall hf (fun ks1 s1 x hx al tmps w β ok hI hal => by
    obtain ⟨rfl, rfl⟩ := atEnd_spec hx
    exact hk hI hal) (fun s x hx => by rw [finT_none] at hx; cases hx) segFuel ks s () h hI hal
theorem callOk_none {C : Cfg} (h : ∀ g, C.ref g = .apart → ApartFn P g) : CallOk P C (fun _ _ _ _ => none) := ⟨fun _ _ _ _ _ h => (nomatch h), h⟩
end

/-! ### parts of code -/
def sq1 : Code → Code
  | .seq a _ => a
  | c => c
def sq2 : Code → Code
  | .seq _ a => a
  | c => c
def blkOf : Code → Code
  | .block _ a => a
  | c => c
def lpOf : Code → Code
  | .loop a => a
  | c => c
def opsOf : Code → Array Oper
  | .region _ o _ => o
  | _ => #[]

/-! ### a set of texts -/
theorem sortTexts_perm {l l' : List ByteArray} (h : l.Perm l') : sortTexts l = sortTexts l' := by
  have h1 := mergeSort_of_perm (h.map fun a : ByteArray => a.data.toList)
  have h2 := sortTexts_bytes l
  have h3 := sortTexts_bytes l'
  have h4 : bytesOfT (sortTexts l) = bytesOfT (sortTexts l') := h2.trans (h1.trans h3.symm)
  refine (List.map_inj_right (f := fun a : ByteArray => a.data.toList) fun a b hab => ?_).1 h4
  cases a; cases b
  exact congrArg _ (Array.toList_inj.1 hab)
/-- the entries of a map from texts to booleans, as they lie -/
def setArr (es : List (ByteArray × Bool)) : Array MapEntry := (es.mapIdx fun k p => (⟨.string p.1, .bool p.2, k⟩ : MapEntry)).toArray
theorem setArr_of {w : World} {ok : Nat → Prop} {es : List (ByteArray × Bool)} {arr : Array MapEntry} {clock : Nat} (h : MapIs w ok .str .bool false es true arr clock) : arr = setArr es ∧ clock = es.length := by
  obtain ⟨h1, h2, h3⟩ := h
  obtain ⟨h4, h5⟩ := h3 rfl
  refine ⟨?_, h4⟩
  apply Array.ext
  · simp [setArr, h1]
  · intro k hk1 hk2
    have hk : k < es.length := by simpa [setArr] using hk2
    obtain ⟨a, us, b, c⟩ := h2 k es[k] arr[k] (List.getElem?_eq_getElem hk) (Array.getElem?_eq_getElem hk1)
    have hb := h5 k arr[k] (Array.getElem?_eq_getElem hk1)
    have ha : [arr[k].key] = [.string es[k].1] := a
    have hu : us = [.bool es[k].2] := b
    have hc : us = [arr[k].val] := c
    rw [hu] at hc
    simp only [List.cons.injEq, and_true] at ha hc
    simp only [setArr, List.getElem_toArray, List.getElem_mapIdx]
    generalize arr[k] = e at ha hc hb
    obtain ⟨e1, e2, e3⟩ := e
    simp only at ha hc hb
    subst ha hb hc
    rfl
theorem setArr_mem {es : List (ByteArray × Bool)} {e : MapEntry} (h : e ∈ (setArr es).toList) : ∃ k, ∃ hk : k < es.length, e = ⟨.string es[k].1, .bool es[k].2, k⟩ := by
  simp only [setArr] at h
  obtain ⟨k, hk, rfl⟩ := List.mem_mapIdx.1 h
  exact ⟨k, hk, rfl⟩
theorem setArr_at {es : List (ByteArray × Bool)} {k : Nat} (hk : k < es.length) : (⟨.string es[k].1, .bool es[k].2, k⟩ : MapEntry) ∈ (setArr es).toList := by
  simp only [setArr]
  exact List.mem_mapIdx.2 ⟨k, hk, rfl⟩
theorem setArr_born (es : List (ByteArray × Bool)) : ((setArr es).toList.map (·.born)).Nodup := by
  have : (setArr es).toList.map (·.born) = List.range es.length := by
    simp only [setArr]
    refine List.ext_getElem (by simp) fun i h1 h2 => by simp
  rw [this]
  exact List.nodup_range
def keyAt (es : List (ByteArray × Bool)) (i : Nat) : ByteArray := ((es[i]?).map (·.1)).getD ByteArray.empty
theorem keyAt_lt {es : List (ByteArray × Bool)} {k : Nat} (hk : k < es.length) : keyAt es k = es[k].1 := by simp [keyAt, hk]
/-- what was met: numbers of entries, none twice -/
structure KeyMet (es : List (ByteArray × Bool)) (seen : Array Nat) (acc : List ByteArray) : Prop where
  nd : seen.toList.Nodup
  lt : ∀ i ∈ seen.toList, i < es.length
  acc : acc = seen.toList.map (keyAt es)
theorem KeyMet.nil (es : List (ByteArray × Bool)) : KeyMet es #[] [] := ⟨List.nodup_nil, fun i hi => by simp at hi, rfl⟩
theorem KeyMet.push {es : List (ByteArray × Bool)} {seen : Array Nat} {acc : List ByteArray} (h : KeyMet es seen acc) {k : Nat} (hk : k < es.length) (hn : seen.contains k = false) : KeyMet es (seen.push k) (acc ++ [es[k].1]) := by
  have hn' : k ∉ seen := by simpa using hn
  refine ⟨?_, fun i hi => ?_, ?_⟩
  · rw [Array.toList_push, List.nodup_append]
    exact ⟨h.nd, by simp, fun a ha b hb e => hn' (by simp at hb; subst hb; subst e; simpa using ha)⟩
  · rw [Array.toList_push] at hi
    rcases List.mem_append.1 hi with hi | hi
    · exact h.lt i hi
    · simp at hi; omega
  · rw [Array.toList_push, List.map_append, h.acc]
    simp [keyAt_lt hk]
theorem KeyMet.len {es : List (ByteArray × Bool)} {seen : Array Nat} {acc : List ByteArray} (h : KeyMet es seen acc) : acc.length ≤ es.length := by
  have h1 : acc.length = seen.toList.length := by rw [h.acc, List.length_map]
  have : seen.toList.length ≤ (List.range es.length).length := h.nd.length_le_of_subset fun i hi => List.mem_range.2 (h.lt i hi)
  simpa [h1] using this
theorem KeyMet.done {es : List (ByteArray × Bool)} {seen : Array Nat} {acc : List ByteArray} (h : KeyMet es seen acc) (h0 : (leftOf (setArr es) seen).size = 0) : acc.Perm (es.map (·.1)) := by
  have hp : seen.toList.Perm (List.range es.length) := by
    refine (List.perm_ext_iff_of_nodup h.nd List.nodup_range).2 fun i => ⟨fun hi => List.mem_range.2 (h.lt i hi), fun hi => ?_⟩
    have hi := List.mem_range.1 hi
    have := all_seen (setArr es) seen h0 _ (setArr_at hi)
    simpa using this
  rw [h.acc]
  refine (hp.map _).trans (.of_eq ?_)
  refine List.ext_getElem (by simp) fun i h1 h2 => ?_
  simp at h1
  simp [keyAt_lt h1]
theorem getD_set_same {a : Array Value} {i : Nat} (h : i < a.size) (v : Value) : (a.setIfInBounds i v).getD i undef = v := by
  simp [Array.getD_eq_getD_getElem?, h]
theorem getD_set_other {a : Array Value} {i j : Nat} (h : i ≠ j) (v : Value) : (a.setIfInBounds i v).getD j undef = a.getD j undef := by
  simp [Array.getD_eq_getD_getElem?, Array.getElem?_setIfInBounds, h]
/-- the map that was handed over -/
theorem Inv.mapAt {X : Fr} {env : List V} {mem : List Obj} {al : Nat → Prop} {tmps : Array Value} {w : World} {β : Nat → Value} {ok : Nat → Prop} (h : Inv X env mem al tmps w β ok) {es : List (ByteArray × Bool)}
    (h0 : mem.getD 0 .dead = .ghost [.osl 1]) (h1 : mem.getD 1 .dead = .map .str .bool false es true) : ∃ bm, X.gh = .tuple #[.map (some bm)] ∧ β 1 = .map (some bm) ∧ w.heap[bm]? = some (.map (setArr es) es.length) ∧ own mem β 1 = some bm := by
  have hg := h.gh 0 (by show (mem.getD 0 .dead).kd = _; rw [h0]; rfl)
  have ho := h.obj 0
  rw [h0] at ho
  obtain ⟨us, h2, h3⟩ := ho
  obtain ⟨v, r, rfl, h4, h5⟩ := h3.head
  have hr : r = [] := by have := h5.1; simpa using this
  subst hr
  have hv : v = β 1 := by
    cases h4 with
    | osl _ _ _ hk _ => exact hk (by show (mem.getD 1 .dead).kd ≠ _; rw [h1]; simp [Obj.kd])
  have hm := h.obj 1
  rw [h1] at hm
  obtain ⟨bm, arr, clock, e1, e2, e3⟩ := hm
  obtain ⟨rfl, rfl⟩ := setArr_of e3
  refine ⟨bm, ?_, e1, e2, ?_⟩
  · rw [← hg, h2, hv, e1]
  · unfold own
    rw [h1, e1]
    rfl
/-- temporaries are forgotten -/
theorem Inv.forget {X : Fr} {env env' : List V} {mem : List Obj} {al : Nat → Prop} {tmps : Array Value} {w : World} {β : Nat → Value} {ok : Nat → Prop} (h : Inv X env mem al tmps w β ok) (hl : env'.length = env.length)
    (he : ∀ (t : Nat) v, env'[t]? = some v → env[t]? = some v ∨ v = uv) : Inv X env' mem al tmps w β ok :=
  { h with
    size := by rw [hl]; exact h.size
    env := fun t v ht => by
      rcases he t v ht with h1 | rfl
      · exact h.env t v h1
      · exact .one _ _ (.undef _) }
end Go.Sk

/- A law's row, out of what the evaluator comes to. -/
set_option linter.unusedSimpArgs false
set_option linter.unusedVariables false
set_option linter.unusedSectionVars false
namespace Go.Sk
open Go Go.RowKit

theorem RelC.bool_inv' {w : World} {ok rd : Nat → Prop} {β : Nat → Value} {kd : Nat → KD} {al : Nat → Prop} {b : Bool} {v : Value} (h : RelC w ok rd β kd al (.bool b) v) : v = .bool b := by cases h; rfl
@[reducible] def ElL : List Ty → Type
  | [] => Unit
  | t :: r => El t × ElL r
def FitsLB (B : Nat) : (ts : List Ty) → ElL ts → Prop
  | [], _ => True
  | t :: r, x => FitsB B t x.1 ∧ FitsLB B r x.2
abbrev FitsL (ts : List Ty) (x : ElL ts) : Prop := FitsLB 9223372036854775807 ts x
def argV (g : Option Bool) (c : Ty) (x : El c) : V :=
  match g with
  | some true => .agg (enc c x)
  | some false => (match enc c x with | [v] => .one v | _ => uv)
  | none => uv
def argVs' (P : Program) : List TypeId → (codes : List Ty) → ElL codes → List V
  | t :: ts, c :: cs, x => argV (aggAt P t) c x.1 :: argVs' P ts cs x.2
  | _, _, _ => []

section
variable {H : Type} {enc' : TypeId × Value → H} {P : Program} {W W' : World} {β : Nat → Value}

theorem open_one {B : Nat} {t : TypeId} {c : Ty} {v : Value} {d : DataW H} {ps : List MemPlace} {r : _root_.Go.Reach} {base : Nat} (hl : layOk P 12 t = true) (hc : tyAt P t = some c) (hval : Value.okWide P W r base t v) (hd : DataW.Trod enc' P W 0 (fun _ => true) true t v d ps) (hw : ∀ m ∈ d.weights P t, m ≤ reachBytes) (hS : B = 9223372036854775807 ∨ shortD B d) :
    ∃ x : El c, FitsB B c x ∧ RelV W (fun b => b < W.heap.size) (fun _ => False) β noKd noAl (argV (aggAt P t) c x) v := by
  obtain ⟨fuel, hf⟩ := hd
  obtain ⟨x, h1, h2⟩ := open_ty 12 t c hl hc fuel _ _ hf hw hS
  refine ⟨x, h2, ?_⟩
  have hrel : RelL W (fun b => b < W.heap.size) (fun _ => False) β noKd noAl (enc c x) v.cells.toList := rel_enc h1
  cases hu : P.underlying t with
  | none => unfold layOk at hl; rw [hu] at hl; cases hl
  | some D =>
    have one : aggAt P t = some false → v.cells = #[v] → RelV W (fun b => b < W.heap.size) (fun _ => False) β noKd noAl (argV (aggAt P t) c x) v := by
      intro hg hv
      rw [hv] at hrel
      rw [hg]
      unfold argV
      simp only
      split
      · rename_i u he
        rw [he] at hrel
        exact .one _ _ (hrel.2 0 u v rfl rfl)
      · exact .one _ _ (.undef _)
    unfold Value.okWide at hval
    rw [hu] at hval
    cases D <;> simp only at hval <;> (try (unfold layOk at hl; rw [hu] at hl; cases hl; done))
    case struct fs =>
      obtain ⟨cs, rfl, _⟩ := hval
      have hg : aggAt P t = some true := by unfold aggAt; rw [hu]
      rw [hg]
      have := RelV.ofL hrel
      simpa [argV, Value.cells] using this
    all_goals
      refine one (by unfold aggAt; rw [hu]) ?_
      cases v <;> first | rfl | (unfold Cell.okWide at hval; rw [hu] at hval; unfold Cell.ok at hval; rw [hu] at hval; exact hval.elim) | skip

theorem open_all {B : Nat} : ∀ (ts : List TypeId) (codes : List Ty) (vs : List Value) (ds : List (DataW H)) (ps : List MemPlace) {r : _root_.Go.Reach} {base : Nat}, ts.map (tyAt P) = codes.map some → ts.all (layOk P 12) = true → DataW.TrodAll enc' P W 0 (fun _ => true) true ts vs ds ps →
    (∀ (j : Nat) t v, ts[j]? = some t → vs[j]? = some v → Value.okWide P W r base t v) → (∀ m ∈ DataW.weightsEach P ts ds, m ≤ reachBytes) → (B = 9223372036854775807 ∨ shortAll B ds) → vs.length = ts.length ∧ ds.length = ts.length ∧ ∃ xs : ElL codes, FitsLB B codes xs ∧ (argVs' P ts codes xs).length = vs.length ∧
      ∀ (j : Nat) a u, (argVs' P ts codes xs)[j]? = some a → vs[j]? = some u → RelV W (fun b => b < W.heap.size) (fun _ => False) β noKd noAl a u
  | [], codes, vs, ds, ps, r, base, hc, hl, hA, hval, hsz, hS => by
    cases codes with
    | cons => simp at hc
    | nil =>
      obtain ⟨rfl, rfl, rfl⟩ := Go.ChangeShapes.trodAll_nil hA
      exact ⟨rfl, rfl, (), trivial, rfl, fun j a u h => by simp [argVs'] at h⟩
  | t :: ts, codes, vs, ds, ps, r, base, hc, hl, hA, hval, hsz, hS => by
    cases codes with
    | nil => simp at hc
    | cons c cs =>
      simp only [List.map_cons, List.cons.injEq] at hc
      simp only [List.all_cons, Bool.and_eq_true] at hl
      obtain ⟨v, vs1, d, ds1, p, q, rfl, rfl, rfl, h1, h2⟩ := Go.ChangeShapes.trodAll_cons hA
      obtain ⟨x, g1, g2⟩ := open_one (β := β) hl.1 hc.1 (hval 0 t v rfl rfl) h1 (fun m hm => hsz m (by simp only [DataW.weightsEach, List.mem_append]; exact .inl hm)) (hS.imp id fun h => by unfold shortAll at h; exact h.1)
      obtain ⟨e1, e2, xs, g3, g4, g5⟩ := open_all ts cs vs1 ds1 q hc.2 hl.2 h2 (fun j t v hj hv => hval (j + 1) t v (by simpa using hj) (by simpa using hv)) (fun m hm => hsz m (by simp only [DataW.weightsEach, List.mem_append]; exact .inr hm)) (hS.imp id fun h => by unfold shortAll at h; exact h.2)
      refine ⟨by simp [e1], by simp [e2], (x, xs), ⟨g1, g3⟩, by simp [argVs', g4], fun j a u hj hu => ?_⟩
      cases j with
      | zero =>
        simp [argVs'] at hj hu
        subst hj
        subst hu
        exact g2
      | succ j => exact g5 j a u (by simpa [argVs'] using hj) (by simpa using hu)

theorem back_all (hlaid : laidOutB P = true) (hb : Below W.heap.size W W') : ∀ (ts : List TypeId) (vs : List Value) (ds : List (DataW H)) (ps : List MemPlace), (∀ t ∈ ts, P.readableRec t = true ∧ t < P.types.size) → DataW.TrodAll enc' P W 0 (fun _ => true) true ts vs ds ps →
    DataW.TrodAll enc' P W' 0 (fun b => decide (b < W.heap.size)) true ts vs ds ps
  | [], vs, ds, ps, _, hA => by
    obtain ⟨rfl, rfl, rfl⟩ := Go.ChangeShapes.trodAll_nil hA
    exact hA
  | t :: ts, vs, ds, ps, hr, hA => by
    obtain ⟨v, vs1, d, ds1, p, q, rfl, rfl, rfl, h1, h2⟩ := Go.ChangeShapes.trodAll_cons hA
    have hlt : ∀ x ∈ p, x.block < W.heap.size := by
      obtain ⟨m, hm⟩ := h1
      exact DataW.trod_lt m _ _ _ hm
    exact trodAll_cons_mk (Below.trod hlaid (hr t (by simp)).1 (hr t (by simp)).2 h1 hb hlt) (back_all hlaid hb ts vs1 ds1 q (fun t ht => hr t (by simp [ht])) h2)

theorem trodAll_len : ∀ {ts : List TypeId} {vs : List Value} {ds : List (DataW H)} {ps : List MemPlace}, DataW.TrodAll enc' P W 0 (fun _ => true) true ts vs ds ps → ds.length = ts.length
  | [], vs, ds, ps, h => by
    obtain ⟨rfl, rfl, rfl⟩ := Go.ChangeShapes.trodAll_nil h
    rfl
  | t :: ts, vs, ds, ps, h => by
    obtain ⟨v, vs1, d, ds1, p, q, rfl, rfl, rfl, h1, h2⟩ := Go.ChangeShapes.trodAll_cons h
    simp [trodAll_len h2]
/-- the same, where no slice of the arguments has more than B elements -/
theorem law_contractB {B : Nat} {C : Cfg} (hlaid : laidOutB P = true) (hm : P.follows .mixedOrders = true) (hN : namesOk P = true) (hP : PrimOk P C) {f : FuncId} {fn : Func} {tb : TypeId} (hrt : fn.resultTypes = #[tb]) (htb : P.underlying tb = some .bool)
    (hread : ∀ t ∈ fn.params.toList, P.readableRec t = true ∧ t < P.types.size) {codes : List Ty} (hc : fn.params.toList.map (tyAt P) = codes.map some) (hl : fn.params.toList.all (layOk P 12) = true)
    {spec : ChangeSpec} (hvars : spec.vars = []) (hspec : ∀ ds : List (DataW H), ds.length = fn.params.toList.length → spec.fn H ds = { results := [.lit (.bool true)], args := ds })
    (hlaw : ∀ xs : ElL codes, FitsLB B codes xs → callF P C f (argVs' P fn.params.toList codes xs) [] ⟨[.one (.ty .bool)], 0⟩ = some true)
    {base : Nat} {args : Array Value} {ds gs : List (DataW H)} {before : List MemPlace} (hval : ∀ (j : Nat) t v, fn.params[j]? = some t → args[j]? = some v → Value.okWide P W .any base t v)
    (hW : DataW.Whole enc' P fn.params.toList spec.vars false W args.toList ds gs before)
    (hsz : (DataW.weightsEach P (fn.params.toList ++ spec.plain.varTypes P) (ds ++ gs)).all (· ≤ reachBytes) = true) (hS : B = 9223372036854775807 ∨ shortAll B ds) :
    Calls P f args W fun e W' => ∃ v, e = .returned v ∧ spec.post enc' P fn false true false false W args v W' := by
  have hW' := hW
  obtain ⟨p, q, hA, hV, rfl, hfz, hnd⟩ := hW
  rw [hvars] at hV
  obtain ⟨rfl, rfl⟩ := Go.ChangeShapes.trodVars_none hV
  have hdl : ds.length = fn.params.toList.length := trodAll_len hA
  have hw : ∀ m ∈ DataW.weightsEach P fn.params.toList ds, m ≤ reachBytes := fun m hm => by
    have key : ∀ (ts us : List TypeId) (ds es : List (DataW H)), ds.length = ts.length → ∀ m ∈ DataW.weightsEach P ts ds, m ∈ DataW.weightsEach P (ts ++ us) (ds ++ es) := by
      intro ts
      induction ts with
      | nil => intro us ds es h m hm; cases ds <;> simp [DataW.weightsEach] at hm h
      | cons t ts ih =>
        intro us ds es h m hm
        cases ds with
        | nil => simp at h
        | cons d ds =>
          simp only [DataW.weightsEach, List.cons_append, List.mem_append] at hm ⊢
          rcases hm with hm | hm
          · exact .inl hm
          · exact .inr (ih us ds es (by simpa using h) m hm)
    have := List.all_eq_true.1 hsz m (key _ _ _ _ hdl m hm)
    simpa using this
  obtain ⟨e1, e2, xs, h1, h2, h3⟩ := open_all (β := fun _ => undef) fn.params.toList codes args.toList ds p hc hl hA (fun j t v hj hv => hval j t v (by simpa using hj) (by simpa using hv)) hw hS
  have hsp := (callF_sound hm hN hP (hlaw xs h1)).1.pure W (fun b => b < W.heap.size) (fun _ => False) (fun _ => undef) args (fun _ h => h) (fun _ h => h.elim) (by simpa using h2.symm) h3
  refine hsp.mono fun e W' he => ?_
  obtain ⟨v, ok', rfl, hI⟩ := he
  obtain ⟨β', h4, h5⟩ := hI 0
  have hv : v = .bool true := by
    have : RelV W' ok' (fun _ => False) β' (kds (wrs [] (numbered 0 []))) (fun i => 0 ≤ i ∧ i < 0 + 0) (.one (.bool true)) v := h5
    exact this.one'.bool_inv' 
  subst hv
  have bel : Below W.heap.size W W' := ⟨h4.os, h4.tape, h4.out, h4.grow, fun k hk => h4.keep k hk fun h => h⟩
  refine ⟨_, rfl, _, _, _, [], p, [], hW', ?_, ?_, ?_, bel.frame _, fun h => by cases h⟩
  · rw [List.append_nil, hspec ds e2, hrt]
    exact Go.ChangeShapes.trodAll_mk1 (shut_bool htb _)
  · rw [List.append_nil, hspec ds e2]
    exact back_all hlaid bel fn.params.toList args.toList ds _ hread hA
  · rw [List.append_nil, hspec ds e2, hvars]
    rfl
theorem law_contract {C : Cfg} (hlaid : laidOutB P = true) (hm : P.follows .mixedOrders = true) (hN : namesOk P = true) (hP : PrimOk P C) {f : FuncId} {fn : Func} {tb : TypeId} (hrt : fn.resultTypes = #[tb]) (htb : P.underlying tb = some .bool)
    (hread : ∀ t ∈ fn.params.toList, P.readableRec t = true ∧ t < P.types.size) {codes : List Ty} (hc : fn.params.toList.map (tyAt P) = codes.map some) (hl : fn.params.toList.all (layOk P 12) = true)
    {spec : ChangeSpec} (hvars : spec.vars = []) (hspec : ∀ ds : List (DataW H), ds.length = fn.params.toList.length → spec.fn H ds = { results := [.lit (.bool true)], args := ds })
    (hlaw : ∀ xs : ElL codes, FitsL codes xs → callF P C f (argVs' P fn.params.toList codes xs) [] ⟨[.one (.ty .bool)], 0⟩ = some true)
    {base : Nat} {args : Array Value} {ds gs : List (DataW H)} {before : List MemPlace} (hval : ∀ (j : Nat) t v, fn.params[j]? = some t → args[j]? = some v → Value.okWide P W .any base t v)
    (hW : DataW.Whole enc' P fn.params.toList spec.vars false W args.toList ds gs before)
    (hsz : (DataW.weightsEach P (fn.params.toList ++ spec.plain.varTypes P) (ds ++ gs)).all (· ≤ reachBytes) = true) :
    Calls P f args W fun e W' => ∃ v, e = .returned v ∧ spec.post enc' P fn false true false false W args v W' :=
  law_contractB hlaid hm hN hP hrt htb hread hc hl hvars hspec hlaw hval hW hsz (.inl rfl)
end
end Go.Sk
