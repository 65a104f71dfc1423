/- What abstract values and states stand for: the relations, and how they last. -/
import Derived.Test.YtgamdchlgikaiaaSkB
import Derived.Deep.AppendSrc
import Derived.Laws.IdiomCopy
import Derived.Laws.Append
import Derived.Laws.NewBlocks
import Derived.WalkKit
set_option linter.unusedSimpArgs false
set_option linter.unusedVariables false
namespace Go.Sk
open Go

/-! ### data in memory -/
/-- the elements xs lie from A on -/
def RowAt (w : World) (ok : Nat → Prop) {α : Type} (R : α → List Value → Prop) (size : Nat) (A : Option Addr) (xs : List α) : Prop :=
  xs = [] ∨ ∃ b o, A = some ⟨b, o, none⟩ ∧ ok b ∧ ∀ k x, xs[k]? = some x → ∃ us, us.length = size ∧ R x us ∧ ∀ j u, us[j]? = some u → w.cell? ⟨b, o + k * size + j, none⟩ = some u

def RepE (w : World) (ok : Nat → Prop) : (t : Ty) → El t → List Value → Prop
  | .bool, b, vs => vs = [.bool b]
  | .int k, n, vs => vs = [.int k n]
  | .str, s, vs => vs = [.string s]
  | .unit, _, vs => vs = []
  | .pair a b, x, vs => ∃ us ws, vs = us ++ ws ∧ RepE w ok a x.1 us ∧ RepE w ok b x.2 ws
  | .slice t, xs, vs => ∃ A c, vs = [.slice A (List.length (α := El t) xs) c] ∧ List.length (α := El t) xs ≤ c ∧ RowAt w ok (RepE w ok t) t.size A xs

theorem RepE.length {w : World} {ok : Nat → Prop} : ∀ {t : Ty} {x : El t} {vs : List Value}, RepE w ok t x vs → vs.length = t.size
  | .bool, _, _, h => by rw [show _ = _ from h]; rfl
  | .int _, _, _, h => by rw [show _ = _ from h]; rfl
  | .str, _, _, h => by rw [show _ = _ from h]; rfl
  | .unit, _, _, h => by rw [show _ = _ from h]; rfl
  | .pair a b, _, _, ⟨us, ws, e, h1, h2⟩ => by rw [e, List.length_append, RepE.length h1, RepE.length h2]; rfl
  | .slice t, _, _, ⟨A, c, e, _⟩ => by rw [e]; rfl

theorem RepE.one {w : World} {ok : Nat → Prop} : ∀ {t : Ty} {x : El t} {vs : List Value}, RepE w ok t x vs → ∀ u ∈ vs, u.oneCell' = true
  | .bool, _, _, h, u, hu => by rw [show _ = _ from h] at hu; simp at hu; subst hu; rfl
  | .int _, _, _, h, u, hu => by rw [show _ = _ from h] at hu; simp at hu; subst hu; rfl
  | .str, _, _, h, u, hu => by rw [show _ = _ from h] at hu; simp at hu; subst hu; rfl
  | .unit, _, _, h, u, hu => by rw [show _ = _ from h] at hu; simp at hu
  | .pair a b, _, _, ⟨us, ws, e, h1, h2⟩, u, hu => by
    rw [e] at hu
    rcases List.mem_append.1 hu with hu | hu
    · exact RepE.one h1 u hu
    · exact RepE.one h2 u hu
  | .slice t, _, _, ⟨A, c, e, _⟩, u, hu => by rw [e] at hu; simp at hu; subst hu; rfl

theorem RowAt.mono {w w' : World} {ok ok' : Nat → Prop} {α : Type} {R R' : α → List Value → Prop} {size : Nat} {A : Option Addr} {xs : List α}
    (h : RowAt w ok R size A xs) (hc : ∀ b, ok b → w'.heap[b]? = w.heap[b]?) (ho : ∀ b, ok b → ok' b) (hR : ∀ x us, R x us → R' x us) : RowAt w' ok' R' size A xs := by
  rcases h with h | ⟨b, o, e, hb, h⟩
  · exact .inl h
  · refine .inr ⟨b, o, e, ho b hb, fun k x hk => ?_⟩
    obtain ⟨us, hl, hr, hc'⟩ := h k x hk
    exact ⟨us, hl, hR _ _ hr, fun j u hj => by rw [World.cell?_of_block (w := w) (hc b hb)]; exact hc' j u hj⟩

theorem RepE.mono {w w' : World} {ok ok' : Nat → Prop} (hc : ∀ b, ok b → w'.heap[b]? = w.heap[b]?) (ho : ∀ b, ok b → ok' b) :
    ∀ {t : Ty} {x : El t} {vs : List Value}, RepE w ok t x vs → RepE w' ok' t x vs
  | .bool, _, _, h => h
  | .int _, _, _, h => h
  | .str, _, _, h => h
  | .unit, _, _, h => h
  | .pair a b, _, _, ⟨us, ws, e, h1, h2⟩ => ⟨us, ws, e, RepE.mono hc ho h1, RepE.mono hc ho h2⟩
  | .slice t, _, _, ⟨A, c, e, hl, hr⟩ => ⟨A, c, e, hl, hr.mono hc ho fun _ _ h => RepE.mono hc ho h⟩

/-! ### cells and values -/
inductive KD where
  | none | cells | row (t : Ty) | ghost | map
def Obj.kd : Obj → KD
  | .dead => .none
  | .cells _ => .cells
  | .row t _ => .row t
  | .frz t _ => .row t
  | .full t _ => .row t
  | .ghost _ => .ghost
  | .map .. => .map

/-- what a cell stands for. w: the world; ok: where data may lie; β: the objects' handles; kd: their kinds; al: the numbers that have been given out -/
inductive RelC (w : World) (ok : Nat → Prop) (rd : Nat → Prop) (β : Nat → Value) (kd : Nat → KD) (al : Nat → Prop) : CV → Value → Prop
  | undef (v : Value) : RelC w ok rd β kd al .undef v
  | bool (b : Bool) : RelC w ok rd β kd al (.bool b) (.bool b)
  | int (k : IntKind) (n : Int) : RelC w ok rd β kd al (.int k n) (.int k n)
  | str (s : ByteArray) : RelC w ok rd β kd al (.str s) (.string s)
  | cst (v : Value) (h : v.oneCell' = true) : RelC w ok rd β kd al (.cst v) v
  | nils (t : Ty) : RelC w ok rd β kd al (.nils t) (.slice none 0 0)
  | slc (t : Ty) (xs : List (El t)) (A : Option Addr) (c : Nat) (hc : xs.length ≤ c) (h : RowAt w ok (RepE w ok t) t.size A xs) : RelC w ok rd β kd al (.slc t xs) (.slice A xs.length c)
  | clp (t : Ty) (xs : List (El t)) (A : Option Addr) (h : RowAt w ok (RepE w ok t) t.size A xs) : RelC w ok rd β kd al (.clp t xs) (.slice A xs.length xs.length)
  | osl (i : Nat) (v : Value) (hi : al i) (h : kd i ≠ .none → v = β i) (h1 : v.oneCell' = true) : RelC w ok rd β kd al (.osl i) v
  | ovw (i off len : Nat) (v : Value) (hi : al i) (h : ∀ t, kd i = .row t → ∃ A n c A', β i = .slice A n c ∧ v = .slice A' len (c - off) ∧ off + len ≤ c ∧
      (∀ b o, A = some ⟨b, o, none⟩ → c ≠ off → A' = some ⟨b, o + off * t.size, none⟩)) (h1 : v.oneCell' = true) : RelC w ok rd β kd al (.ovw i off len) v
  | nilp : RelC w ok rd β kd al .nilp (.pointer none)
  | ptr (i off : Nat) (v : Value) (hi : al i) (h : kd i = .cells → ∃ b, β i = .pointer (some ⟨b, 0, none⟩) ∧ v = .pointer (some ⟨b, off, none⟩)) (h1 : v.oneCell' = true) : RelC w ok rd β kd al (.ptr i off) v
  | eptr (i k off : Nat) (v : Value) (hi : al i) (h : ∀ t, kd i = .row t → ∃ b o n c, β i = .slice (some ⟨b, o, none⟩) n c ∧ v = .pointer (some ⟨b, o + k * t.size + off, none⟩)) (h1 : v.oneCell' = true) : RelC w ok rd β kd al (.eptr i k off) v
  | rptr (cs : List CV) (b o : Nat) (us : List Value) (hb : ok b ∨ rd b) (hl : us.length = cs.length) (hu : ∀ (j : Nat) u, us[j]? = some u → w.cell? ⟨b, o + j, none⟩ = some u) (h : ∀ (j : Nat) c u, cs[j]? = some c → us[j]? = some u → RelC w ok rd β kd al c u) : RelC w ok rd β kd al (.rptr cs) (.pointer (some ⟨b, o, none⟩))
  | fn (f : FuncId) (cs : List CV) (us : List Value) (hl : us.length = cs.length) (h : ∀ (j : Nat) c u, cs[j]? = some c → us[j]? = some u → RelC w ok rd β kd al c u) : RelC w ok rd β kd al (.fn f cs) (.func (.func f) #[] us.toArray)

inductive RelV (w : World) (ok : Nat → Prop) (rd : Nat → Prop) (β : Nat → Value) (kd : Nat → KD) (al : Nat → Prop) : V → Value → Prop
  | one (c : CV) (v : Value) (h : RelC w ok rd β kd al c v) : RelV w ok rd β kd al (.one c) v
  | agg (cs : List CV) (us : List Value) (hl : us.length = cs.length) (h : ∀ (j : Nat) c u, cs[j]? = some c → us[j]? = some u → RelC w ok rd β kd al c u) : RelV w ok rd β kd al (.agg cs) (.agg us.toArray)
  | tup (vs : List V) (us : List Value) (hl : us.length = vs.length) (h : ∀ (j : Nat) v u, vs[j]? = some v → us[j]? = some u → RelV w ok rd β kd al v u) : RelV w ok rd β kd al (.tup vs) (.tuple us.toArray)

/-- a list of cells against a list of values -/
def RelL (w : World) (ok : Nat → Prop) (rd : Nat → Prop) (β : Nat → Value) (kd : Nat → KD) (al : Nat → Prop) (cs : List CV) (us : List Value) : Prop :=
  us.length = cs.length ∧ ∀ (j : Nat) c u, cs[j]? = some c → us[j]? = some u → RelC w ok rd β kd al c u

theorem RelC.one {w : World} {ok : Nat → Prop} {rd : Nat → Prop} {β : Nat → Value} {kd : Nat → KD} {al : Nat → Prop} {c : CV} {v : Value} (h : RelC w ok rd β kd al c v) (hc : c ≠ .undef) : v.oneCell' = true := by
  cases h <;> first | exact absurd rfl hc | assumption | rfl

/-- from one context to a later one -/
structure Ext (w : World) (ok : Nat → Prop) (rd : Nat → Prop) (β : Nat → Value) (kd : Nat → KD) (al : Nat → Prop) (w' : World) (ok' : Nat → Prop) (β' : Nat → Value) (kd' : Nat → KD) (al' : Nat → Prop) : Prop where
  cells : ∀ b, ok b → w'.heap[b]? = w.heap[b]?
  cellsR : ∀ b, rd b → w'.heap[b]? = w.heap[b]?
  ok : ∀ b, ok b → ok' b
  kd : ∀ i, al i → kd' i = kd i ∨ kd' i = .none
  β : ∀ i, al i → kd' i ≠ .none → β' i = β i
  sub : ∀ i, al i → al' i

section
variable {w : World} {ok : Nat → Prop} {rd : Nat → Prop} {β : Nat → Value} {kd : Nat → KD} {al : Nat → Prop} {w' : World} {ok' : Nat → Prop} {β' : Nat → Value} {kd' : Nat → KD} {al' : Nat → Prop}
theorem Ext.refl (w : World) (ok : Nat → Prop) (rd : Nat → Prop) (β : Nat → Value) (kd : Nat → KD) (al : Nat → Prop) : Ext w ok rd β kd al w ok β kd al :=
  ⟨fun _ _ => rfl, fun _ _ => rfl, fun _ h => h, fun _ _ => .inl rfl, fun _ _ _ => rfl, fun _ h => h⟩
theorem RelC.mono (e : Ext w ok rd β kd al w' ok' β' kd' al') {c : CV} {v : Value} (h : RelC w ok rd β kd al c v) : RelC w' ok' rd β' kd' al' c v := by
  have hcell : ∀ b, ok b ∨ rd b → ∀ o, w'.cell? ⟨b, o, none⟩ = w.cell? ⟨b, o, none⟩ := fun b hb o => World.cell?_of_block (w := w) (hb.elim (e.cells b) (e.cellsR b))
  induction h with
  | undef v => exact .undef v
  | bool b => exact .bool b
  | int k n => exact .int k n
  | str s => exact .str s
  | cst v h => exact .cst v h
  | nils t => exact .nils t
  | slc t xs A c hc h => exact .slc t xs A c hc (h.mono e.cells e.ok fun _ _ h => RepE.mono e.cells e.ok h)
  | clp t xs A h => exact .clp t xs A (h.mono e.cells e.ok fun _ _ h => RepE.mono e.cells e.ok h)
  | osl i v hi h h1 =>
    refine .osl i v (e.sub i hi) (fun hk => ?_) h1
    rw [e.β i hi hk]
    rcases e.kd i hi with hk' | hk'
    · exact h (by rwa [← hk'])
    · exact absurd hk' hk
  | ovw i off len v hi h h1 =>
    refine .ovw i off len v (e.sub i hi) (fun t hk => ?_) h1
    rw [e.β i hi (by rw [hk]; simp)]
    rcases e.kd i hi with hk' | hk'
    · exact h t (by rwa [← hk'])
    · rw [hk] at hk'; cases hk'
  | nilp => exact .nilp
  | ptr i off v hi h h1 =>
    refine .ptr i off v (e.sub i hi) (fun hk => ?_) h1
    rw [e.β i hi (by rw [hk]; simp)]
    rcases e.kd i hi with hk' | hk'
    · exact h (by rwa [← hk'])
    · rw [hk] at hk'; cases hk'
  | eptr i k off v hi h h1 =>
    refine .eptr i k off v (e.sub i hi) (fun t hk => ?_) h1
    rw [e.β i hi (by rw [hk]; simp)]
    rcases e.kd i hi with hk' | hk'
    · exact h t (by rwa [← hk'])
    · rw [hk] at hk'; cases hk'
  | rptr cs b o us hb hl hu h ih => exact .rptr cs b o us (hb.imp (e.ok b) id) hl (fun j u hj => by rw [hcell b hb]; exact hu j u hj) ih
  | fn f cs us hl h ih => exact .fn f cs us hl ih
theorem RelL.mono (e : Ext w ok rd β kd al w' ok' β' kd' al') {cs : List CV} {us : List Value} (h : RelL w ok rd β kd al cs us) : RelL w' ok' rd β' kd' al' cs us :=
  ⟨h.1, fun j c u hj hu => (h.2 j c u hj hu).mono e⟩
theorem RelV.mono (e : Ext w ok rd β kd al w' ok' β' kd' al') {c : V} {v : Value} (h : RelV w ok rd β kd al c v) : RelV w' ok' rd β' kd' al' c v := by
  induction h with
  | one c v h => exact .one c v (h.mono e)
  | agg cs us hl h => exact .agg cs us hl fun j c u hj hu => (h j c u hj hu).mono e
  | tup vs us hl h ih => exact .tup vs us hl ih

theorem RelL.nil : RelL w ok rd β kd al [] [] := ⟨rfl, fun j c u h => by simp at h⟩
theorem RelL.cons {c : CV} {v : Value} {cs : List CV} {us : List Value} (h : RelC w ok rd β kd al c v) (hs : RelL w ok rd β kd al cs us) : RelL w ok rd β kd al (c :: cs) (v :: us) := by
  refine ⟨by simp [hs.1], fun j d u hj hu => ?_⟩
  cases j with
  | zero => simp at hj hu; subst hj; subst hu; exact h
  | succ j => exact hs.2 j d u (by simpa using hj) (by simpa using hu)
theorem RelL.head {c : CV} {cs : List CV} {us : List Value} (h : RelL w ok rd β kd al (c :: cs) us) : ∃ v r, us = v :: r ∧ RelC w ok rd β kd al c v ∧ RelL w ok rd β kd al cs r := by
  cases us with
  | nil => have := h.1; simp at this
  | cons v r => exact ⟨v, r, rfl, h.2 0 c v rfl rfl, by simpa using h.1, fun j d u hj hu => h.2 (j + 1) d u (by simpa using hj) (by simpa using hu)⟩
theorem RelL.append {cs ds : List CV} {us vs : List Value} (h : RelL w ok rd β kd al cs us) (g : RelL w ok rd β kd al ds vs) : RelL w ok rd β kd al (cs ++ ds) (us ++ vs) := by
  refine ⟨by simp [h.1, g.1], fun j d u hj hu => ?_⟩
  by_cases hlt : j < cs.length
  · rw [List.getElem?_append_left hlt] at hj
    rw [List.getElem?_append_left (by rw [h.1]; exact hlt)] at hu
    exact h.2 j d u hj hu
  · have hge : cs.length ≤ j := Nat.le_of_not_lt hlt
    rw [List.getElem?_append_right hge] at hj
    rw [List.getElem?_append_right (by rw [h.1]; exact hge), h.1] at hu
    exact g.2 _ d u hj hu
theorem RelL.take {cs : List CV} {us : List Value} (h : RelL w ok rd β kd al cs us) (n : Nat) : RelL w ok rd β kd al (cs.take n) (us.take n) := by
  refine ⟨by simp [h.1], fun j d u hj hu => ?_⟩
  rw [List.getElem?_take] at hj hu
  split at hj
  · rename_i hlt; rw [if_pos hlt] at hu; exact h.2 j d u hj hu
  · cases hj
theorem RelL.drop {cs : List CV} {us : List Value} (h : RelL w ok rd β kd al cs us) (n : Nat) : RelL w ok rd β kd al (cs.drop n) (us.drop n) := by
  refine ⟨by simp [h.1], fun j d u hj hu => ?_⟩
  rw [List.getElem?_drop] at hj hu
  exact h.2 _ d u hj hu
theorem RelL.split {cs ds : List CV} {us : List Value} (h : RelL w ok rd β kd al (cs ++ ds) us) : ∃ a b, us = a ++ b ∧ RelL w ok rd β kd al cs a ∧ RelL w ok rd β kd al ds b := by
  refine ⟨us.take cs.length, us.drop cs.length, (List.take_append_drop _ _).symm, ?_, ?_⟩
  · have := h.take cs.length; rwa [List.take_left'] at this; rfl
  · have := h.drop cs.length; rwa [List.drop_left'] at this; rfl

/-- data in memory, as cells -/
theorem rel_enc : ∀ {t : Ty} {x : El t} {us : List Value}, RepE w ok t x us → RelL w ok rd β kd al (enc t x) us
  | .bool, b, _, h => by rw [show _ = _ from h]; exact .cons (.bool _) .nil
  | .int k, n, _, h => by rw [show _ = _ from h]; exact .cons (.int _ _) .nil
  | .str, s, _, h => by rw [show _ = _ from h]; exact .cons (.str _) .nil
  | .unit, _, _, h => by rw [show _ = _ from h]; exact .nil
  | .pair a b, x, _, ⟨us, ws, e, h1, h2⟩ => by rw [e]; exact (rel_enc h1).append (rel_enc h2)
  | .slice t, xs, _, ⟨A, c, e, hl, hr⟩ => by rw [e]; exact .cons (.slc t xs A c hl hr) .nil

theorem enc_length : ∀ (t : Ty) (x : El t), (enc t x).length = t.size
  | .bool, _ => rfl
  | .int _, _ => rfl
  | .str, _ => rfl
  | .unit, _ => rfl
  | .pair a b, x => by simp [enc, Ty.size, enc_length]
  | .slice _, _ => rfl

theorem castL_eq {a b : Ty} (h : a = b) (xs : List (El a)) : HEq (castL h xs) xs := by subst h; rfl
theorem decS_spec {t t' : Ty} {xs : List (El t')} {ys : List (El t)} (h : decS t t' xs = some ys) : ∃ e : t' = t, ys = castL e xs := by
  unfold decS at h
  split at h
  · rename_i e _; simp at h; exact ⟨e, h.symm⟩
  · cases h
theorem eqKind_spec {k l : IntKind} {p : PLift (k = l)} (_ : eqKind k l = some p) : k = l := p.down

theorem rel_decB {cs : List CV} {x : Bool} {r : List CV} {us : List Value} (h : decB cs = some (x, r)) (hr : RelL w ok rd β kd al cs us) :
    ∃ a b, us = a ++ b ∧ RepE w ok .bool x a ∧ RelL w ok rd β kd al r b := by
  unfold decB at h
  split at h
  · simp at h
    obtain ⟨rfl, rfl⟩ := h
    obtain ⟨v, q, rfl, hc, hq⟩ := hr.head
    cases hc
    exact ⟨[_], q, rfl, rfl, hq⟩
  · cases h
theorem rel_decI {k : IntKind} {cs : List CV} {x : Int} {r : List CV} {us : List Value} (h : decI k cs = some (x, r)) (hr : RelL w ok rd β kd al cs us) :
    ∃ a b, us = a ++ b ∧ RepE w ok (.int k) x a ∧ RelL w ok rd β kd al r b := by
  unfold decI at h
  split at h
  · split at h
    · rename_i p hp
      obtain rfl := eqKind_spec hp
      simp at h
      obtain ⟨rfl, rfl⟩ := h
      obtain ⟨v, q, rfl, hc, hq⟩ := hr.head
      cases hc
      exact ⟨[_], q, rfl, rfl, hq⟩
    · cases h
  · cases h
theorem rel_decT {cs : List CV} {x : ByteArray} {r : List CV} {us : List Value} (h : decT cs = some (x, r)) (hr : RelL w ok rd β kd al cs us) :
    ∃ a b, us = a ++ b ∧ RepE w ok .str x a ∧ RelL w ok rd β kd al r b := by
  unfold decT at h
  split at h
  · simp at h
    obtain ⟨rfl, rfl⟩ := h
    obtain ⟨v, q, rfl, hc, hq⟩ := hr.head
    cases hc
    exact ⟨[_], q, rfl, rfl, hq⟩
  · cases h
theorem rel_decL {t : Ty} {cs : List CV} {x : List (El t)} {r : List CV} {us : List Value} (h : decL t cs = some (x, r)) (hr : RelL w ok rd β kd al cs us) :
    ∃ a b, us = a ++ b ∧ RepE w ok (.slice t) x a ∧ RelL w ok rd β kd al r b := by
  unfold decL at h
  split at h
  · split at h
    · rename_i ys hy
      simp at h
      obtain ⟨rfl, rfl⟩ := h
      obtain ⟨rfl, rfl⟩ := decS_spec hy
      obtain ⟨v, q, rfl, hc, hq⟩ := hr.head
      cases hc
      rename_i A c hl hrow
      exact ⟨[_], q, rfl, ⟨A, c, rfl, hl, hrow⟩, hq⟩
    · cases h
  · split at h
    · rename_i ys hy
      simp at h
      obtain ⟨rfl, rfl⟩ := h
      obtain ⟨rfl, rfl⟩ := decS_spec hy
      obtain ⟨v, q, rfl, hc, hq⟩ := hr.head
      cases hc
      rename_i A hrow
      exact ⟨[_], q, rfl, ⟨A, _, rfl, Nat.le_refl _, hrow⟩, hq⟩
    · cases h
  · simp at h
    obtain ⟨rfl, rfl⟩ := h
    obtain ⟨v, q, rfl, hc, hq⟩ := hr.head
    cases hc
    exact ⟨[_], q, rfl, ⟨none, 0, rfl, Nat.le_refl _, .inl rfl⟩, hq⟩
  · cases h
/-- what is read off cells stands where these stand -/
theorem rel_dec : ∀ (t : Ty) (cs : List CV) {x : El t} {r : List CV} {us : List Value}, dec t cs = some (x, r) → RelL w ok rd β kd al cs us →
    ∃ a b, us = a ++ b ∧ RepE w ok t x a ∧ RelL w ok rd β kd al r b
  | .bool, cs, x, r, us, h, hr => rel_decB h hr
  | .int k, cs, x, r, us, h, hr => rel_decI h hr
  | .str, cs, x, r, us, h, hr => rel_decT h hr
  | .slice t, cs, x, r, us, h, hr => rel_decL h hr
  | .unit, cs, x, r, us, h, hr => by
    simp [dec] at h
    subst h
    exact ⟨[], us, rfl, rfl, hr⟩
  | .pair a b, cs, x, r, us, h, hr => by
    unfold dec at h
    split at h
    · rename_i y r1 h1
      split at h
      · rename_i z r2 h2
        simp at h
        obtain ⟨rfl, rfl⟩ := h
        obtain ⟨a1, b1, rfl, ha, hb⟩ := rel_dec a cs h1 hr
        obtain ⟨a2, b2, rfl, ha2, hb2⟩ := rel_dec b _ h2 hb
        exact ⟨a1 ++ a2, b2, by simp, ⟨a1, a2, rfl, ha, ha2⟩, hb2⟩
      · cases h
    · cases h
theorem rel_decAll {t : Ty} {cs : List CV} {x : El t} {us : List Value} (h : decAll t cs = some x) (hr : RelL w ok rd β kd al cs us) : RepE w ok t x us := by
  unfold decAll at h
  split at h
  · rename_i y hy
    simp at h; subst h
    obtain ⟨a, b, rfl, ha, hb⟩ := rel_dec t cs hy hr
    have : b = [] := by have := hb.1; simpa using this
    subst this
    simpa using ha
  · cases h
end

/-! ### objects and states -/
/-- an owned row: its elements, and others of the same code up to its capacity -/
def Lies (w : World) (ok : Nat → Prop) (t : Ty) (xs : List (El t)) (c o : Nat) (arr : Array Value) : Prop :=
  ∃ sp : List (El t), xs.length + sp.length = c ∧ ∀ (k : Nat) x, (xs ++ sp)[k]? = some x → ∃ us, us.length = t.size ∧ RepE w ok t x us ∧ ∀ (j : Nat) u, us[j]? = some u → arr[o + k * t.size + j]? = some u
section
variable {w : World} {ok : Nat → Prop} {t : Ty} {xs : List (El t)} {c o : Nat} {arr : Array Value}
theorem Lies.at_ (h : Lies w ok t xs c o arr) : ∀ (k : Nat) x, xs[k]? = some x → ∃ us, us.length = t.size ∧ RepE w ok t x us ∧ ∀ (j : Nat) u, us[j]? = some u → arr[o + k * t.size + j]? = some u := by
  obtain ⟨sp, h1, h2⟩ := h
  intro k x hk
  exact h2 k x (by rw [List.getElem?_append_left (List.getElem?_eq_some_iff.1 hk).1]; exact hk)
instance : CoeFun (Lies w ok t xs c o arr) (fun _ => ∀ (k : Nat) x, xs[k]? = some x → ∃ us, us.length = t.size ∧ RepE w ok t x us ∧ ∀ (j : Nat) u, us[j]? = some u → arr[o + k * t.size + j]? = some u) := ⟨Lies.at_⟩
theorem Lies.spare (h : Lies w ok t xs c o arr) : ∃ sp : List (El t), xs.length + sp.length = c ∧ ∀ (k : Nat) x, sp[k]? = some x → ∃ us, us.length = t.size ∧ RepE w ok t x us ∧ ∀ (j : Nat) u, us[j]? = some u → arr[o + (xs.length + k) * t.size + j]? = some u := by
  obtain ⟨sp, h1, h2⟩ := h
  exact ⟨sp, h1, fun k x hk => h2 _ x (by rw [List.getElem?_append_right (by omega)]; simpa using hk)⟩
theorem Lies.tail (h : Lies w ok t xs c o arr) {m q : Nat} (hm : m ≤ c) {arr' : Array Value} (hq : q ≤ o + m * t.size) (ha : ∀ j, q ≤ j → arr'[j]? = arr[j]?) :
    ∃ sp : List (El t), m + sp.length = c ∧ ∀ (k : Nat) x, sp[k]? = some x → ∃ us, us.length = t.size ∧ RepE w ok t x us ∧ ∀ (j : Nat) u, us[j]? = some u → arr'[o + (m + k) * t.size + j]? = some u := by
  obtain ⟨sp, h1, h2⟩ := h
  refine ⟨(xs ++ sp).drop m, by simp; omega, fun k x hk => ?_⟩
  rw [List.getElem?_drop] at hk
  obtain ⟨us, a1, a2, a3⟩ := h2 _ x hk
  refine ⟨us, a1, a2, fun j u hj => ?_⟩
  rw [ha _ (by rw [Nat.add_mul]; omega)]
  exact a3 j u hj
theorem lies_of (h1 : ∀ (k : Nat) x, xs[k]? = some x → ∃ us, us.length = t.size ∧ RepE w ok t x us ∧ ∀ (j : Nat) u, us[j]? = some u → arr[o + k * t.size + j]? = some u)
    (h2 : ∃ sp : List (El t), xs.length + sp.length = c ∧ ∀ (k : Nat) x, sp[k]? = some x → ∃ us, us.length = t.size ∧ RepE w ok t x us ∧ ∀ (j : Nat) u, us[j]? = some u → arr[o + (xs.length + k) * t.size + j]? = some u) : Lies w ok t xs c o arr := by
  obtain ⟨sp, h3, h4⟩ := h2
  refine ⟨sp, h3, fun k x hk => ?_⟩
  by_cases hlt : k < xs.length
  · rw [List.getElem?_append_left hlt] at hk
    exact h1 k x hk
  · rw [List.getElem?_append_right (by omega)] at hk
    have := h4 _ x hk
    rwa [show xs.length + (k - xs.length) = k by omega] at this
theorem Lies.mono {w' : World} {ok' : Nat → Prop} (h : Lies w ok t xs c o arr) (hc : ∀ b, ok b → w'.heap[b]? = w.heap[b]?) (ho : ∀ b, ok b → ok' b) : Lies w' ok' t xs c o arr := by
  obtain ⟨sp, h1, h2⟩ := h
  exact ⟨sp, h1, fun k x hk => let ⟨us, a, b, e⟩ := h2 k x hk; ⟨us, a, RepE.mono hc ho b, e⟩⟩
end
/-- a value against its cells; g: is it an aggregate? -/
def ValIs : Bool → Value → List Value → Prop
  | true, v, us => v = .agg us.toArray
  | false, v, us => us = [v]
/-- a map's entries -/
def MapIs (w : World) (ok : Nat → Prop) (kt vt : Ty) (g : Bool) (es : List (El kt × El vt)) (tidy : Bool) (arr : Array MapEntry) (clock : Nat) : Prop :=
  arr.size = es.length ∧ (∀ (k : Nat) p e, es[k]? = some p → arr[k]? = some e → RepE w ok kt p.1 [e.key] ∧ ∃ us, RepE w ok vt p.2 us ∧ ValIs g e.val us) ∧
  (tidy = true → clock = es.length ∧ ∀ (k : Nat) e, arr[k]? = some e → e.born = k)
theorem MapIs.mono {w w' : World} {ok ok' : Nat → Prop} {kt vt : Ty} {g : Bool} {es : List (El kt × El vt)} {tidy : Bool} {arr : Array MapEntry} {clock : Nat} (h : MapIs w ok kt vt g es tidy arr clock)
    (hc : ∀ b, ok b → w'.heap[b]? = w.heap[b]?) (ho : ∀ b, ok b → ok' b) : MapIs w' ok' kt vt g es tidy arr clock :=
  ⟨h.1, fun k p e h1 h2 => let ⟨a, us, b, c⟩ := h.2.1 k p e h1 h2; ⟨RepE.mono hc ho a, us, RepE.mono hc ho b, c⟩, h.2.2⟩
def ObjRel (w : World) (ok : Nat → Prop) (rd : Nat → Prop) (β : Nat → Value) (kd : Nat → KD) (al : Nat → Prop) (i : Nat) : Obj → Prop
  | .dead => True
  | .cells cs => ∃ b us T, β i = .pointer (some ⟨b, 0, none⟩) ∧ w.heap[b]? = some (.cells us.toArray T (0, 0)) ∧ RelL w ok rd β kd al cs us
  | .row t xs => ∃ A c, β i = .slice A xs.length c ∧ ((xs = [] ∧ c = 0) ∨ ∃ b o arr T, A = some ⟨b, o, none⟩ ∧ w.heap[b]? = some (.cells arr T (0, 0)) ∧ 0 < c ∧ xs.length ≤ c ∧ o + c * t.size ≤ arr.size ∧ Lies w ok t xs c o arr)
  | .frz t xs => RepE w ok (.slice t) xs [β i]
  | .full t xs => ∃ A, β i = .slice A xs.length xs.length ∧ (xs = [] ∨ ∃ b o arr T, A = some ⟨b, o, none⟩ ∧ w.heap[b]? = some (.cells arr T (0, 0)) ∧ o + xs.length * t.size ≤ arr.size ∧ Lies w ok t xs xs.length o arr)
  | .ghost cs => ∃ us : List Value, β i = .tuple us.toArray ∧ RelL w ok rd β kd al cs us
  | .map kt vt g es tidy => ∃ r arr clock, β i = .map (some r) ∧ w.heap[r]? = some (.map arr clock) ∧ MapIs w ok kt vt g es tidy arr clock
/-- the block that an object owns -/
def ownB (o : Obj) (v : Value) : Option Nat :=
  match o, v with
  | .cells _, .pointer (some a) => some a.block
  | .row _ _, .slice (some a) _ c => if c = 0 then none else some a.block
  | .full _ _, .slice (some a) _ c => if c = 0 then none else some a.block
  | .map .., .map (some r) => some r
  | _, _ => none

/-- what holds where a function began: its world, where its data may lie, what it was handed to own -/
structure Fr where
  w0 : World
  ok0 : Nat → Prop
  own0 : Nat → Prop
  rd : Nat → Prop          -- what pointers that were handed in alone may point at
  gh : Value               -- what the ghost's roots are

@[reducible] def kds (mem : List Obj) : Nat → KD := fun i => (mem.getD i .dead).kd
structure Inv (X : Fr) (env : List V) (mem : List Obj) (al : Nat → Prop) (tmps : Array Value) (w : World) (β : Nat → Value) (ok : Nat → Prop) : Prop where
  size : tmps.size = env.length
  env : ∀ t v, env[t]? = some v → RelV w ok X.rd β (fun i => (mem.getD i .dead).kd) al v (tmps.getD t undef)
  obj : ∀ i, ObjRel w ok X.rd β (fun i => (mem.getD i .dead).kd) al i (mem.getD i .dead)
  len : ∀ i, (mem.getD i .dead).kd ≠ .none → al i
  inj : ∀ i j b, ownB (mem.getD i .dead) (β i) = some b → ownB (mem.getD j .dead) (β j) = some b → i = j
  apart : ∀ i b, ownB (mem.getD i .dead) (β i) = some b → ¬ ok b
  apartR : ∀ i b, ownB (mem.getD i .dead) (β i) = some b → ¬ X.rd b
  gh : ∀ i, kds mem i = .ghost → β i = X.gh
  rdLt : ∀ b, X.rd b → b < X.w0.heap.size
  okLt : ∀ b, ok b → b < w.heap.size
  okOld : ∀ b, ok b → b < X.w0.heap.size → X.ok0 b ∨ X.own0 b
  ownOld : ∀ i b, ownB (mem.getD i .dead) (β i) = some b → b < X.w0.heap.size → X.own0 b
  keep : ∀ b, b < X.w0.heap.size → ¬ X.own0 b → w.heap[b]? = X.w0.heap[b]?
  grow : X.w0.heap.size ≤ w.heap.size
  os : w.os = X.w0.os
  out : w.output = X.w0.output
  tape : w.tape = X.w0.tape

theorem ownB_lt {w : World} {ok : Nat → Prop} {rd : Nat → Prop} {β : Nat → Value} {kd : Nat → KD} {al : Nat → Prop} {i : Nat} {o : Obj} {b : Nat} (h : ObjRel w ok rd β kd al i o) (hb : ownB o (β i) = some b) : b < w.heap.size := by
  have key : ∀ {x : Go.Obj}, w.heap[b]? = some x → b < w.heap.size := fun hx => by
    rcases Nat.lt_or_ge b w.heap.size with h | h
    · exact h
    · rw [Array.getElem?_eq_none h] at hx; cases hx
  cases o with
  | dead => simp [ownB] at hb
  | frz t xs => simp [ownB] at hb
  | ghost cs => simp [ownB] at hb
  | map kt vt g es tidy =>
    obtain ⟨r, arr, clock, e, hh, _⟩ := h
    rw [e] at hb
    simp [ownB] at hb
    subst hb
    exact key hh
  | full t xs =>
    obtain ⟨A, e, h⟩ := h
    rw [e] at hb
    rcases h with rfl | ⟨b', o, arr, T, rfl, hh, _⟩
    · cases A <;> simp [ownB] at hb
    · simp [ownB] at hb
      obtain ⟨_, rfl⟩ := hb
      exact key hh
  | cells cs =>
    obtain ⟨b', us, T, e, hh, _⟩ := h
    rw [e] at hb
    simp [ownB] at hb
    subst hb
    exact key hh
  | row t xs =>
    obtain ⟨A, c, e, h⟩ := h
    rw [e] at hb
    rcases h with ⟨_, rfl⟩ | ⟨b', o, arr, T, rfl, hh, _⟩
    · cases A <;> simp [ownB] at hb
    · simp [ownB] at hb
      obtain ⟨_, rfl⟩ := hb
      exact key hh
end Go.Sk
