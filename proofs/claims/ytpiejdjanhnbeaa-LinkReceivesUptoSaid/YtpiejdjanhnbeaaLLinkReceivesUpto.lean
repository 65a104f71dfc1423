/- The row of the law LinkReceives: where what it reads is of bulk at most 1048576: the call returns true and the arguments read behind it as before; no condition beyond the given row's. -/
import Derived.Test.YtpiejdjanhnbeaaRows
import Derived.Test.YtpiejdjanhnbeaaT8
import Derived.Test.YtpiejdjanhnbeaaT4
import Derived.WalkKit
import Derived.ProofKit
import Derived.OpenShut
import Derived.ShutString
import Derived.ChangeOld
import Derived.Below
import Derived.SizedLaws
import Derived.Deep.CondSized
set_option linter.unusedVariables false
namespace Go.Proofs.Ytpiejdjanhnbeaa.linkReceives
open Go Go.Sk Go.RowKit
theorem own : ownKnob Try.prog.godebug = none := by kernel_rfl
theorem laidOut : laidOutB Try.prog = true := by kernel_rfl
abbrev codes : List Ty := [cConn, cPacket]
theorem readable : ∀ t ∈ Try.f4.params.toList, Try.prog.readableRec t = true ∧ t < Try.prog.types.size := by
  have h : (Try.f4.params.toList.all fun t => Try.prog.readableRec t && decide (t < Try.prog.types.size)) = true := by kernel_rfl
  intro t ht
  have := List.all_eq_true.1 h t ht
  simp only [Bool.and_eq_true, decide_eq_true_eq] at this
  exact this
/-! ### the bound -/
theorem one_le {H : Type} (d : DataW H) : 1 ≤ Rows.uptoBulk d := by
  cases d with
  | lit l => cases l <;> simp [Rows.uptoBulk]
  | nil => simp [Rows.uptoBulk]
  | ptr d => simp [Rows.uptoBulk]
  | slice elems spare => simp [Rows.uptoBulk]
  | agg parts => simp [Rows.uptoBulk]
  | iface t d => simp [Rows.uptoBulk]
  | map entries => simp [Rows.uptoBulk]
  | held h => simp [Rows.uptoBulk]
theorem len_le {H : Type} : ∀ (l : List (DataW H)), l.length ≤ Rows.uptoBulkAll l
  | [] => by simp [Rows.uptoBulkAll]
  | x :: r => by
    have h1 := one_le x
    have h2 := len_le r
    simp only [Rows.uptoBulkAll, List.length_cons]
    omega
mutual
theorem short_of {H : Type} {B : Nat} : ∀ (d : DataW H), Rows.uptoBulk d ≤ B → shortD B d
  | .slice elems spare, h => by
    simp only [Rows.uptoBulk] at h
    have h1 := len_le elems
    unfold shortD
    exact ⟨by omega, shorts_of elems (by omega)⟩
  | .agg parts, h => by
    simp only [Rows.uptoBulk] at h
    unfold shortD
    exact shorts_of parts (by omega)
  | .lit _, _ => by unfold shortD; trivial
  | .nil, _ => by unfold shortD; trivial
  | .ptr _, _ => by unfold shortD; trivial
  | .iface _ _, _ => by unfold shortD; trivial
  | .map _, _ => by unfold shortD; trivial
  | .held _, _ => by unfold shortD; trivial
theorem shorts_of {H : Type} {B : Nat} : ∀ (l : List (DataW H)), Rows.uptoBulkAll l ≤ B → shortAll B l
  | [], _ => by unfold shortAll; trivial
  | d :: r, h => by
    simp only [Rows.uptoBulkAll] at h
    unfold shortAll
    exact ⟨short_of d (by omega), shorts_of r (by omega)⟩
end
theorem bulk_app {H : Type} (l r : List (DataW H)) : Rows.uptoBulkAll (l ++ r) = Rows.uptoBulkAll l + Rows.uptoBulkAll r := by
  induction l with
  | nil => simp [Rows.uptoBulkAll]
  | cons x l ih => simp only [List.cons_append, Rows.uptoBulkAll, ih]; omega
theorem bound {H : Type} {ds gs : List (DataW H)} (hk : Rows.uptoSmall H (ds ++ gs) = true) : shortAll 1048576 ds := by
  have h := of_decide_eq_true hk
  rw [bulk_app] at h
  exact shorts_of ds (by omega)
theorem fits_of {B : Nat} (hB : B ≤ 9223372036854775807) : ∀ {t : Ty} {x : El t}, FitsB B t x → Fits t x
  | .bool, _, h => h
  | .int _, _, h => h
  | .str, _, h => h
  | .unit, _, h => h
  | .pair _ _, _, h => ⟨fits_of hB h.1, fits_of hB h.2⟩
  | .slice _, _, h => ⟨⟨Nat.le_trans h.1.1 hB, h.1.2⟩, fun y hy => fits_of hB (h.2 y hy)⟩
theorem as_told (xs : ElL codes) (h : FitsLB 1048576 codes xs) : callF Try.prog cfg 4 (argVs' Try.prog Try.f4.params.toList codes xs) [] ⟨[.one (.ty .bool)], 0⟩ = some true := by
  obtain ⟨c, p, _⟩ := xs
  have e : callF Try.prog cfg 4 (argVs' Try.prog Try.f4.params.toList codes (c, p, ())) [] ⟨[.one (.ty .bool)], 0⟩ = law47_LinkReceives.f c p := by kernel_rfl
  exact e.trans (receives c p (by have h1 : c.2.2.2.1.length ≤ 1048576 := h.1.2.2.2.1.1.1; have h2 : c.2.2.2.2.length ≤ 1048576 := h.1.2.2.2.2.1.1; omega) ⟨h.1.2.2.1.1, h.1.2.2.1.2⟩)
set_option maxRecDepth 100000 in
theorem lifted (os : Os) (started : os.Started) (H : Type) (enc : TypeId × Value → H) (F : Stop.Interp) :
    ReturnsInHanded {} Try.checked os 4 .any ((Rows.OpenSpec.upto Rows.linkReceivesSpec).pre6 enc Try.prog Try.f4 Rows.linkReceivesUptoRow.domain false) (((Rows.OpenSpec.upto Rows.linkReceivesSpec).at F).post enc Try.prog Try.f4 false true false false) := by
  refine returnsInHanded_of_cond_sized (C := Try.checked) (s := Rows.OpenSpec.upto Rows.linkReceivesSpec) (k := Rows.uptoSmall) rfl own started (by kernel_rfl) Try.func4
    (OpenSpec.witness (enc := enc) (C := Try.checked) (s := Rows.OpenSpec.upto Rows.linkReceivesSpec) (k := Rows.uptoSmall) rfl false ⟨#[], #[.agg #[.int .i64 0, .int .i64 0, .int .i64 0, .slice none 0 0, .slice none 0 0], .agg #[.int .i64 0, .int .i64 0, .int .i64 0, .int .i64 0, .int .i64 0, .int .i64 0, .int .u64 0, .int .i64 0, .int .i64 0, .int .i64 0, .slice none 0 0, .string ByteArray.empty]], []⟩ 8 (by kernel_rfl) (by kernel_rfl) (by kernel_rfl)
      (x := ([.agg [.lit (.int .i64 0), .lit (.int .i64 0), .lit (.int .i64 0), .nil, .nil], .agg [.lit (.int .i64 0), .lit (.int .i64 0), .lit (.int .i64 0), .lit (.int .i64 0), .lit (.int .i64 0), .lit (.int .i64 0), .lit (.int .u64 0), .agg [.lit (.int .i64 0), .lit (.int .i64 0), .lit (.int .i64 0), .nil], .lit (.string [])]], [], [])) (by kernel_rfl) rfl (by kernel_rfl)) ?_
  intro W base args ds gs before hval hW hcnd hk hsz _
  exact law_contractB (B := 1048576) (P := Try.prog) (C := cfg) (fn := Try.f4) (codes := codes) laidOut (by kernel_rfl) (by kernel_rfl) prim_ok rfl (by kernel_rfl) readable (by kernel_rfl) (by kernel_rfl) rfl (fun ds h => by
    match ds, h with
    | [_, _], _ => rfl) as_told hval hW hsz (.inr (bound hk))
theorem over : Rows.linkReceivesUptoRow.holds Try.pinned (Rows.OpenSpec.upto Rows.linkReceivesSpec) :=
  OpenClaim.holds_of_cond 4 Try.f4 rfl rfl rfl rfl rfl rfl rfl ⟨rfl, rfl, rfl, rfl, rfl⟩ rfl rfl rfl rfl rfl (by kernel_rfl) Try.func4 (by kernel_rfl)
    (of_decide_eq_true (by kernel_rfl)) (by unfold Func.isWrapper; first | (rw [if_pos (by decide +kernel)]; kernel_rfl) | (rw [if_neg (by decide +kernel)]; exact ⟨rfl, rfl⟩)) (fun os started H enc _ F => lifted os started H enc F)
end Go.Proofs.Ytpiejdjanhnbeaa.linkReceives
namespace Go.Proofs.Ytpiejdjanhnbeaa
theorem linkReceivesUpto_holds : Rows.LinkReceivesUptoSaid := linkReceives.over
end Go.Proofs.Ytpiejdjanhnbeaa
