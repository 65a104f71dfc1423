/- The row of the law LinkEncodes: whatever the input, the call returns true and the arguments read behind it as before; no condition beyond the given row's. -/
import Derived.Test.YtpiejdjanhnbeaaGreatRows
import Derived.Test.YtpiejdjanhnbeaaGreatT8
import Derived.Test.YtpiejdjanhnbeaaGreatT4
import Derived.WalkKit
import Derived.ProofKit
import Derived.OpenShut
import Derived.ShutString
import Derived.ChangeOld
import Derived.Below
import Derived.SizedLaws
set_option linter.unusedVariables false
namespace Go.Proofs.YtpiejdjanhnbeaaGreat.linkEncodes
open Go Go.Sk Go.RowKit
theorem own : ownKnob Tryz.prog.godebug = none := by kernel_rfl
theorem laidOut : laidOutB Tryz.prog = true := by kernel_rfl
abbrev codes : List Ty := [cPacket, .str]
theorem readable : ∀ t ∈ Tryz.f3.params.toList, Tryz.prog.readableRec t = true ∧ t < Tryz.prog.types.size := by
  have h : (Tryz.f3.params.toList.all fun t => Tryz.prog.readableRec t && decide (t < Tryz.prog.types.size)) = true := by kernel_rfl
  intro t ht
  have := List.all_eq_true.1 h t ht
  simp only [Bool.and_eq_true, decide_eq_true_eq] at this
  exact this
theorem as_told (xs : ElL codes) (h : FitsL codes xs) : callF Tryz.prog cfg 3 (argVs' Tryz.prog Tryz.f3.params.toList codes xs) [] ⟨[.one (.ty .bool)], 0⟩ = some true := by
  obtain ⟨p, s, _⟩ := xs
  have e : callF Tryz.prog cfg 3 (argVs' Tryz.prog Tryz.f3.params.toList codes (p, s, ())) [] ⟨[.one (.ty .bool)], 0⟩ = law47_LinkEncodes.f p s := by kernel_rfl
  exact e.trans (encodes p s h.1)
set_option maxRecDepth 100000 in
theorem lifted (os : Os) (started : os.Started) (H : Type) (enc : TypeId × Value → H) :
    ReturnsInHanded {} Tryz.checked os 3 .any (Rows.linkEncodesSpec.pre6 enc Tryz.prog Tryz.f3 Rows.linkEncodesRow.domain false) (Rows.linkEncodesSpec.post enc Tryz.prog Tryz.f3 false true false false) := by
  refine returnsInHanded_of_change_sized (C := Tryz.checked) own started (by kernel_rfl) Tryz.func3
    (ChangeSpec.witness6 (enc := enc) (C := Tryz.checked) false ⟨#[], #[.agg #[.int .i64 0, .int .i64 0, .int .i64 0, .int .i64 0, .int .i64 0, .int .i64 0, .int .u64 0, .int .i64 0, .int .i64 0, .int .i64 0, .slice none 0 0, .string ByteArray.empty], .string ByteArray.empty], []⟩ 8 (by kernel_rfl) (by kernel_rfl) (by kernel_rfl) (by kernel_rfl)) ?_
  intro W base args ds gs before hval hW hcnd hsz _
  exact law_contract (P := Tryz.prog) (C := cfg) (fn := Tryz.f3) (codes := codes) laidOut (by kernel_rfl) (by kernel_rfl) prim_ok rfl (by kernel_rfl) readable (by kernel_rfl) (by kernel_rfl) rfl (fun ds h => by
    match ds, h with
    | [_, _], _ => rfl) as_told hval hW hsz
theorem over : Rows.linkEncodesRow.holds Tryz.pinned (OpenSpec.ofChange Rows.linkEncodesSpec) :=
  OpenClaim.holds_of_wide 3 Tryz.f3 rfl rfl rfl rfl rfl rfl rfl ⟨rfl, rfl, rfl, rfl, rfl⟩ rfl rfl rfl rfl rfl (by kernel_rfl) Tryz.func3 (by kernel_rfl)
    (of_decide_eq_true (by kernel_rfl)) (by unfold Func.isWrapper; first | (rw [if_pos (by decide +kernel)]; kernel_rfl) | (rw [if_neg (by decide +kernel)]; exact ⟨rfl, rfl⟩)) (fun os started H enc _ => lifted os started H enc)
end Go.Proofs.YtpiejdjanhnbeaaGreat.linkEncodes
namespace Go.Proofs.YtpiejdjanhnbeaaGreat
theorem linkEncodes_holds : Rows.LinkEncodesSaid := linkEncodes.over
end Go.Proofs.YtpiejdjanhnbeaaGreat
