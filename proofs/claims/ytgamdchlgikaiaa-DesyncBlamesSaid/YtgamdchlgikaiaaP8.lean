/- What is told of slices.Sort holds of the given code. -/
import Derived.Test.YtgamdchlgikaiaaShelf
import Derived.Test.YtgamdchlgikaiaaSkZE
import Derived.Test.YtgamdchlgikaiaaC
namespace Go.Proofs.Ytgamdchlgikaiaa
open Go Go.Sk
theorem prim_ok : PrimOk Try.prog cfg := by
  intro g vs m ρ x h
  show FnSpec Try.prog g vs m ρ x ∧ Sk.Enters Try.prog g
  unfold cfg at h
  simp only [primB] at h
  split at h
  · split at h
    · rename_i xs
      split at h
      · rename_i hsz
        cases h
        refine ⟨sort_told (fun blk off cap zs w hH hblk hz => Try.slices_Sort_int blk off cap zs w hH hblk hz) (fun p cap w => Try.slices_Sort_int_none p cap w) hsz, ?_⟩
        exact ⟨_, _, Try.func23, rfl, by kernel_rfl⟩
      · cases h
    · cases h
  · cases h
end Go.Proofs.Ytgamdchlgikaiaa
