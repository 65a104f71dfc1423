/- What is told of a function that sorts an owned row of ints in place: from its contract over any world. -/
import Derived.Test.YtgamdchlgikaiaaSkZB
import Derived.Sort.Grow
set_option linter.unusedSimpArgs false
set_option linter.unusedVariables false
namespace Go.Sk
open Go Go.RowKit

theorem putCells_get (o : Nat) (ys : List Int) (arr : Array Value) (k : Nat) : (Sort.putCells (Value.int .i64) o ys.toArray arr)[k]? = arr[k]?.map fun x => if o ≤ k ∧ k < o + ys.length then .int .i64 ys.toArray[k - o]! else x := by
  unfold Sort.putCells
  rw [Array.getElem?_mapIdx]
  rfl
theorem heap_grow (w : World) (os : Array Go.Obj) (b : Nat) (h : b < w.heap.size) : (Sort.grow w os).heap[b]? = w.heap[b]? := by
  unfold Sort.grow
  rw [Array.getElem?_append_left h]
theorem heap_putRow (w : World) (b o : Nat) (ys : List Int) (b' : Nat) : (Sort.putRow (Value.int .i64) w b o ys.toArray).heap[b']? = if b = b' then w.heap[b']?.map (Sort.onCells (Sort.putCells (Value.int .i64) o ys.toArray)) else w.heap[b']? := by
  unfold Sort.putRow Sort.mapBlock
  exact Array.getElem?_modify

section
variable {P : Program} {g : FuncId}
theorem sorted_fin {X : Fr} {al : Nat → Prop} {w : World} {β : Nat → Value} {ok : Nat → Prop} {ys : List Int} (h : Inv X [] [.ghost [.osl 1], .row (.int .i64) ys] al #[] w β ok) : PostM X [.one (.own (.int .i64))] 1 ys (.tuple #[]) w :=
  fin_post (ρ := ⟨[.one (.own (.int .i64))], 1⟩) (x := ys) (q := .tup []) h (.tup [] [] rfl fun j v u hv => by simp at hv) rfl

theorem sort_told (hS : ∀ (blk off cap : Nat) (zs : List Int) (w : World), Sort.Holds (Value.int .i64) w blk off zs.toArray → blk < w.heap.size → zs.length < 4611686018427387904 →
      Calls P g #[.slice (some ⟨blk, off, none⟩) zs.length cap] w fun e w' => e = .returned (.tuple #[]) ∧ ∃ n os, w' = Sort.grow (Sort.putRow (Value.int .i64) (Sort.ahead w n) blk off (zs.mergeSort fun x y => decide (x ≤ y)).toArray) os)
    (hN : ∀ (p : Option Addr) (cap : Nat) (w : World), Calls P g #[.slice p 0 cap] w fun e w' => e = .returned (.tuple #[]) ∧ w' = w) {xs : List Int} (hsz : xs.length < 4611686018427387904) :
    FnSpec P g [.one (.osl 1)] [.ghost [.osl 1], .row (.int .i64) xs] ⟨[.one (.own (.int .i64))], 1⟩ (xs.mergeSort fun x y => decide (x ≤ y)) := by
  intro X al us β ok h hal
  have h1 := h.env 0 _ rfl
  have hu : us.getD 0 undef = β 1 := by
    have := h1.one'
    generalize us.getD 0 undef = u at this
    cases this with
    | osl _ _ hi hk _ => exact hk (by simp [Obj.kd])
  have hus : us = #[β 1] := by
    have h2 : us.size = 1 := h.size
    rw [← hu]
    apply Array.ext
    · simpa using h2
    · intro i hi1 hi2
      have : i = 0 := by omega
      subst this
      simp [Array.getD, hi1]
  have hob := h.obj 1
  obtain ⟨A, c, hb, hob⟩ := (show ObjRel X.w0 ok X.rd β (kds [.ghost [.osl 1], .row (.int .i64) xs]) al 1 (.row (.int .i64) xs) from hob)
  have hle : (xs.mergeSort fun x y => decide (x ≤ y)).length = xs.length := List.length_mergeSort _
  have drop : ∀ {ys : List Int} {w' : World}, Inv X [.one (.osl 1)] [.ghost [.osl 1], .row (.int .i64) ys] al us w' β ok → Inv X [] [.ghost [.osl 1], .row (.int .i64) ys] al #[] w' β ok := fun h => { h with size := rfl, env := fun t v ht => by simp at ht }
  rw [hus, hb]
  by_cases hx : xs = []
  · subst hx
    refine (hN A c X.w0).mono fun e w' he => ?_
    obtain ⟨rfl, rfl⟩ := he
    exact ⟨_, rfl, sorted_fin (drop (by simpa using h))⟩
  rcases hob with ⟨rfl, _⟩ | ⟨b, o, arr, T, rfl, hh, h0, hlc, hsz', hl⟩
  · exact absurd rfl hx
  have hblt : b < X.w0.heap.size := by
    rcases Nat.lt_or_ge b X.w0.heap.size with h | h
    · exact h
    · rw [Array.getElem?_eq_none h] at hh; cases hh
  have hH : Sort.Holds (Value.int .i64) X.w0 b o xs.toArray := by
    intro j hj
    have hj' : j < xs.length := by simpa using hj
    obtain ⟨us, l1, l2, l3⟩ := hl.at_ j xs[j] (List.getElem?_eq_getElem hj')
    have l2' : us = [.int .i64 xs[j]] := l2
    have := l3 0 (.int .i64 xs[j]) (by rw [l2']; rfl)
    simp only [Ty.size, Nat.mul_one, Nat.add_zero] at this
    refine ⟨?_, ?_⟩
    · unfold World.cell?
      simp only [hh]
      rw [this]
      simp [hj']
    · unfold World.frozen?
      simp only [hh]
      simp
  refine (hS b o c xs X.w0 hH hblt hsz).mono fun e w' he => ?_
  obtain ⟨rfl, n, os, rfl⟩ := he
  refine ⟨_, rfl, sorted_fin (drop ?_)⟩
  generalize hys : (xs.mergeSort fun x y => decide (x ≤ y)) = ys at *
  have hown : own [.ghost [.osl 1], .row (.int .i64) xs] β 1 = some b := by
    unfold own
    rw [hb]
    show ownB (.row (.int .i64) xs) _ = _
    simp only [ownB]
    rw [if_neg (by omega)]
  have hs1 : (Sort.putRow (Value.int .i64) (Sort.ahead X.w0 n) b o ys.toArray).heap.size = X.w0.heap.size := by simp
  have hheap : ∀ b', b' < X.w0.heap.size → (Sort.grow (Sort.putRow (Value.int .i64) (Sort.ahead X.w0 n) b o ys.toArray) os).heap[b']? = if b = b' then X.w0.heap[b']?.map (Sort.onCells (Sort.putCells (Value.int .i64) o ys.toArray)) else X.w0.heap[b']? := fun b' hb' => by
    rw [heap_grow _ _ _ (by rw [hs1]; exact hb'), heap_putRow]
    rfl
  refine (h.update (mem' := [.ghost [.osl 1], .row (.int .i64) ys]) (al' := al) (w' := Sort.grow (Sort.putRow (Value.int .i64) (Sort.ahead X.w0 n) b o ys.toArray) os) (β' := β) (ok' := ok) (fun i => i = 1) (fun _ h => h) (fun i hi _ => hi ▸ h.len 1 (by simp [Obj.kd])) (fun i hi => ?_) (fun _ _ => rfl)
    (fun i hi _ => .inl ⟨by subst hi; rfl, rfl⟩) (fun i hi hg => by subst hi; exact absurd (show KD.row (.int .i64) = KD.ghost from hg) (by simp)) (fun b' hb' hne => ?_) ?_ (fun _ h => h) (fun _ h => .inl h) (fun ext i hi => ?_) (fun i b' hi hb' => ?_) (fun i j _ hi hj _ _ => by rw [hi, hj]) (fun i b' hi hb' => ?_) rfl rfl rfl).2
  · match i, hi with
    | 0, _ => rfl
    | 1, hi => exact absurd rfl hi
    | i + 2, _ => rfl
  · rw [hheap b' hb', if_neg fun e => hne 1 rfl (by rw [hown, e])]
  · simp
  · subst hi
    show ObjRel _ _ _ _ _ _ 1 (.row (.int .i64) ys)
    refine ⟨_, c, by rw [hb, hle], .inr ⟨b, o, Sort.putCells (Value.int .i64) o ys.toArray arr, T, rfl, ?_, h0, by omega, ?_, ?_⟩⟩
    · rw [hheap b hblt, if_pos rfl, hh]
      rfl
    · simpa [Sort.putCells] using hsz'
    · refine lies_of (fun k x hk => ?_) ?_
      · obtain ⟨hk1, hk2⟩ := List.getElem?_eq_some_iff.1 hk
        refine ⟨[.int .i64 x], rfl, rfl, fun j u hj => ?_⟩
        cases j with
        | succ j => simp at hj
        | zero =>
          simp at hj
          subst hj
          simp only [Ty.size, Nat.mul_one, Nat.add_zero] at hsz' ⊢
          rw [putCells_get, Array.getElem?_eq_getElem (by omega), Option.map_some, if_pos (by omega)]
          rw [show o + k - o = k by omega]
          simp [hk1, hk2]
      · obtain ⟨sp, s1, s2⟩ := hl.spare
        refine ⟨sp, by omega, fun k x hk => ?_⟩
        obtain ⟨us, a1, a2, a3⟩ := s2 k x hk
        have a2' : us = [.int .i64 x] := a2
        refine ⟨us, a1, a2', fun j u hj => ?_⟩
        have := a3 j u hj
        rw [hle, putCells_get, this]
        simp only [Option.map_some, Ty.size, Nat.mul_one]
        rw [if_neg (by omega)]
  · subst hi
    refine .inl ⟨1, rfl, ?_⟩
    unfold own at hb' ⊢
    rw [hb] at hb' ⊢
    simpa [ownB] using hb'
  · subst hi
    refine h.apart 1 b' ?_
    unfold own at hb'
    rw [hb] at hb' ⊢
    simpa [ownB] using hb'
end
end Go.Sk
