/- The row of the law LinkInOrder: whatever the input, the call returns true and the arguments read behind it as before; no condition beyond the given row's. -/
import Derived.Test.YtpiejdjanhnbeaaRows
import Derived.Test.YtpiejdjanhnbeaaT8
import Derived.Test.YtpiejdjanhnbeaaT4
import Derived.WalkKit
import Derived.ProofKit
import Derived.OpenShut
import Derived.ShutString
import Derived.ChangeOld
import Derived.Below
import Derived.SizedLaws
set_option linter.unusedVariables false
namespace Go.Proofs.Ytpiejdjanhnbeaa.linkInOrder
open Go Go.Sk Go.RowKit
theorem own : ownKnob Try.prog.godebug = none := by kernel_rfl
theorem laidOut : laidOutB Try.prog = true := by kernel_rfl
abbrev codes : List Ty := [.slice (.pair (.int .i64) (.int .i64))]
theorem readable : ∀ t ∈ Try.f6.params.toList, Try.prog.readableRec t = true ∧ t < Try.prog.types.size := by
  have h : (Try.f6.params.toList.all fun t => Try.prog.readableRec t && decide (t < Try.prog.types.size)) = true := by kernel_rfl
  intro t ht
  have := List.all_eq_true.1 h t ht
  simp only [Bool.and_eq_true, decide_eq_true_eq] at this
  exact this
theorem as_told (xs : ElL codes) (h : FitsL codes xs) : callF Try.prog cfg 6 (argVs' Try.prog Try.f6.params.toList codes xs) [] ⟨[.one (.ty .bool)], 0⟩ = some true := by
  obtain ⟨l, _⟩ := xs
  have e : callF Try.prog cfg 6 (argVs' Try.prog Try.f6.params.toList codes (l, ())) [] ⟨[.one (.ty .bool)], 0⟩ = law47_LinkInOrder.f l := by kernel_rfl
  exact e.trans (inOrder l)
set_option maxRecDepth 100000 in
theorem lifted (os : Os) (started : os.Started) (H : Type) (enc : TypeId × Value → H) :
    ReturnsInHanded {} Try.checked os 6 .any (Rows.linkInOrderSpec.pre6 enc Try.prog Try.f6 Rows.linkInOrderRow.domain false) (Rows.linkInOrderSpec.post enc Try.prog Try.f6 false true false false) := by
  refine returnsInHanded_of_change_sized (C := Try.checked) own started (by kernel_rfl) Try.func6
    (ChangeSpec.witness6 (enc := enc) (C := Try.checked) false ⟨#[], #[.slice none 0 0], []⟩ 8 (by kernel_rfl) (by kernel_rfl) (by kernel_rfl) (by kernel_rfl)) ?_
  intro W base args ds gs before hval hW hcnd hsz _
  exact law_contract (P := Try.prog) (C := cfg) (fn := Try.f6) (codes := codes) laidOut (by kernel_rfl) (by kernel_rfl) prim_ok rfl (by kernel_rfl) readable (by kernel_rfl) (by kernel_rfl) rfl (fun ds h => by
    match ds, h with
    | [_], _ => rfl) as_told hval hW hsz
theorem over : Rows.linkInOrderRow.holds Try.pinned (OpenSpec.ofChange Rows.linkInOrderSpec) :=
  OpenClaim.holds_of_wide 6 Try.f6 rfl rfl rfl rfl rfl rfl rfl ⟨rfl, rfl, rfl, rfl, rfl⟩ rfl rfl rfl rfl rfl (by kernel_rfl) Try.func6 (by kernel_rfl)
    (of_decide_eq_true (by kernel_rfl)) (by unfold Func.isWrapper; first | (rw [if_pos (by decide +kernel)]; kernel_rfl) | (rw [if_neg (by decide +kernel)]; exact ⟨rfl, rfl⟩)) (fun os started H enc _ => lifted os started H enc)
end Go.Proofs.Ytpiejdjanhnbeaa.linkInOrder
namespace Go.Proofs.Ytpiejdjanhnbeaa
theorem linkInOrder_holds : Rows.LinkInOrderSaid := linkInOrder.over
end Go.Proofs.Ytpiejdjanhnbeaa
