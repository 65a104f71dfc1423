/-
  No cell of these rows narrows 'for every input' (looked for: loops, veiled, ifaces, maps, wideKeys, modest, calm, conditions, laid).
  DERIVED. THE GIVEN ROWS OF THIS SEAT. 5 by the template 'for every input the law returns true; each argument reads behind the call as it read before'; 0 by the template 'total and deterministic' (their statements: YtpcahneiinjdmaaTotals.lean).
  GIVEN WITH THE SEED: the statements are not yours to turn. If you find one false, say at which input.
  Laid BY PROGRAM, IN A SANDBOX (cutbox-rows.mjs): the forced cells as the released guide's own fill.sh prints them over the translation 07c3c750c4eca09b… (all of the seat's roots in one cut). By AI agents, Wed Nov 11 2026. No macro, syntax, notation, axiom, sorry.
-/
import Derived.Test.YtpcahneiinjdmaaChecked
import GoSem.Claim
import GoSem.ClaimJoined
import GoSem.ClaimMapViews
import Derived.JoinedTies
import Derived.KernelRfl
namespace Go.Proofs.Ytpcahneiinjdmaa
/- THE CELL 'sum', in the pinned program and in every row, IS THE sha256 OF THE DUMP (.gsa) THAT YtpcahneiinjdmaaProg.lean LOADS. Nothing in Lean hashes anything: it is a label: what it is worth is what the hold of that sum in a sandbox is worth. -/
noncomputable def Try.pinned : Pinned := { name := "ytpcahneiinjdmaa", sum := "07c3c750c4eca09bbcfc5e53e750acd65509b3730207165281527877c7a899d2", checked := Try.checked }
namespace Rows
def none {H : Type} : Left H := { results := [], args := [] }

/-- 'skirmishlaw29.TechHas': WHATEVER THE INPUT: true; the input reads as it did. -/
def techHasSpec : ChangeSpec := { name := "techHas", fn := fun _ => fun
  | [d1, d2, d3] => { results := [.lit (.bool true)], args := [d1, d2, d3] }
  | _ => none }
def techHasRow : OpenClaim := { program := "ytpcahneiinjdmaa", sum := "07c3c750c4eca09bbcfc5e53e750acd65509b3730207165281527877c7a899d2", func := "skirmish/skirmishlaw29.TechHas", spec := "techHas", inPlace := ["slices.overlaps[string]"], unfollowed := true, recurses := true, apart := false }
def TechHasSaid : Prop := techHasRow.holds Try.pinned (OpenSpec.ofChange techHasSpec)

/-- ITS FALSE NEIGHBOUR: 'it returns false'. Refute it at one input. -/
def techHasWrong : ChangeSpec := { name := "techHas", fn := fun _ => fun
  | [d1, d2, d3] => { results := [.lit (.bool false)], args := [d1, d2, d3] }
  | _ => none }
def TechHasWrongFalsely : Prop := techHasRow.holds Try.pinned (OpenSpec.ofChange techHasWrong)

/-- 'skirmishlaw29.TechClosures': WHATEVER THE INPUT: true; the input reads as it did. -/
def techClosuresSpec : ChangeSpec := { name := "techClosures", fn := fun _ => fun
  | [d1, d2] => { results := [.lit (.bool true)], args := [d1, d2] }
  | _ => none }
def techClosuresRow : OpenClaim := { program := "ytpcahneiinjdmaa", sum := "07c3c750c4eca09bbcfc5e53e750acd65509b3730207165281527877c7a899d2", func := "skirmish/skirmishlaw29.TechClosures", spec := "techClosures", inPlace := ["slices.overlaps[string]"], unfollowed := true, recurses := true, apart := false }
def TechClosuresSaid : Prop := techClosuresRow.holds Try.pinned (OpenSpec.ofChange techClosuresSpec)

/-- ITS FALSE NEIGHBOUR: 'it returns false'. Refute it at one input. -/
def techClosuresWrong : ChangeSpec := { name := "techClosures", fn := fun _ => fun
  | [d1, d2] => { results := [.lit (.bool false)], args := [d1, d2] }
  | _ => none }
def TechClosuresWrongFalsely : Prop := techClosuresRow.holds Try.pinned (OpenSpec.ofChange techClosuresWrong)

/-- 'skirmishlaw29.TechClosed': WHATEVER THE INPUT: true; the input reads as it did. -/
def techClosedSpec : ChangeSpec := { name := "techClosed", fn := fun _ => fun
  | [d1, d2] => { results := [.lit (.bool true)], args := [d1, d2] }
  | _ => none }
def techClosedRow : OpenClaim := { program := "ytpcahneiinjdmaa", sum := "07c3c750c4eca09bbcfc5e53e750acd65509b3730207165281527877c7a899d2", func := "skirmish/skirmishlaw29.TechClosed", spec := "techClosed", inPlace := ["slices.overlaps[string]"], unfollowed := true, recurses := true, apart := false }
def TechClosedSaid : Prop := techClosedRow.holds Try.pinned (OpenSpec.ofChange techClosedSpec)

/-- ITS FALSE NEIGHBOUR: 'it returns false'. Refute it at one input. -/
def techClosedWrong : ChangeSpec := { name := "techClosed", fn := fun _ => fun
  | [d1, d2] => { results := [.lit (.bool false)], args := [d1, d2] }
  | _ => none }
def TechClosedWrongFalsely : Prop := techClosedRow.holds Try.pinned (OpenSpec.ofChange techClosedWrong)

/-- 'skirmishlaw29.TechLearns': WHATEVER THE INPUT: true; the input reads as it did. -/
def techLearnsSpec : ChangeSpec := { name := "techLearns", fn := fun _ => fun
  | [d1, d2, d3] => { results := [.lit (.bool true)], args := [d1, d2, d3] }
  | _ => none }
def techLearnsRow : OpenClaim := { program := "ytpcahneiinjdmaa", sum := "07c3c750c4eca09bbcfc5e53e750acd65509b3730207165281527877c7a899d2", func := "skirmish/skirmishlaw29.TechLearns", spec := "techLearns", inPlace := ["slices.overlaps[string]"], unfollowed := true, recurses := true, apart := false }
def TechLearnsSaid : Prop := techLearnsRow.holds Try.pinned (OpenSpec.ofChange techLearnsSpec)

/-- ITS FALSE NEIGHBOUR: 'it returns false'. Refute it at one input. -/
def techLearnsWrong : ChangeSpec := { name := "techLearns", fn := fun _ => fun
  | [d1, d2, d3] => { results := [.lit (.bool false)], args := [d1, d2, d3] }
  | _ => none }
def TechLearnsWrongFalsely : Prop := techLearnsRow.holds Try.pinned (OpenSpec.ofChange techLearnsWrong)

/-- 'skirmishlaw29.TechKeeps': WHATEVER THE INPUT: true; the input reads as it did. -/
def techKeepsSpec : ChangeSpec := { name := "techKeeps", fn := fun _ => fun
  | [d1, d2, d3] => { results := [.lit (.bool true)], args := [d1, d2, d3] }
  | _ => none }
def techKeepsRow : OpenClaim := { program := "ytpcahneiinjdmaa", sum := "07c3c750c4eca09bbcfc5e53e750acd65509b3730207165281527877c7a899d2", func := "skirmish/skirmishlaw29.TechKeeps", spec := "techKeeps", inPlace := ["slices.overlaps[string]"], unfollowed := true, recurses := true, apart := false }
def TechKeepsSaid : Prop := techKeepsRow.holds Try.pinned (OpenSpec.ofChange techKeepsSpec)

/-- ITS FALSE NEIGHBOUR: 'it returns false'. Refute it at one input. -/
def techKeepsWrong : ChangeSpec := { name := "techKeeps", fn := fun _ => fun
  | [d1, d2, d3] => { results := [.lit (.bool false)], args := [d1, d2, d3] }
  | _ => none }
def TechKeepsWrongFalsely : Prop := techKeepsRow.holds Try.pinned (OpenSpec.ofChange techKeepsWrong)

/- THE SECOND FORM. 'bulk': how many values and letters a reading holds, each counted each time it is reached (what is shared counts as often as it is met; a slice's spare places count too). A statement '..UptoSaid' is the law's where the arguments, and the package variables that the reading takes, are together of bulk at most 1048576: NARROWER than '..Said'. Prove '..Said' where nothing that the law and all that it calls make is longer than what came in: it says more and counts as full. Else prove '..UptoSaid'. A law counts once. -/
mutual
def uptoBulk {H : Type} : DataW H → Nat
  | .lit (.string bytes) => bytes.length + 1
  | .lit _ => 1
  | .nil => 1
  | .ptr d => uptoBulk d + 1
  | .slice elems spare => uptoBulkAll elems + uptoBulkAll spare + 1
  | .agg parts => uptoBulkAll parts + 1
  | .iface _ d => uptoBulk d + 1
  | .map entries => uptoBulkEntries entries + 1
  | .held _ => 1
def uptoBulkAll {H : Type} : List (DataW H) → Nat
  | [] => 0
  | d :: r => uptoBulk d + uptoBulkAll r
def uptoBulkEntries {H : Type} : List (Lit × DataW H) → Nat
  | [] => 0
  | x :: r => uptoBulkEntry x + uptoBulkEntries r
def uptoBulkEntry {H : Type} : Lit × DataW H → Nat
  | (.string bytes, d) => bytes.length + uptoBulk d + 1
  | (_, d) => uptoBulk d + 1
 end
def uptoSmall : (H : Type) → List (DataW H) → Bool := fun _ ds => decide (uptoBulkAll ds ≤ 1048576)
def OpenSpec.upto (s : _root_.Go.ChangeSpec) : _root_.Go.OpenSpec := { _root_.Go.OpenSpec.ofChange s with cond := some uptoSmall }

/-- 'skirmishlaw29.TechHas', WHERE WHAT IT READS IS OF BULK AT MOST 1048576: true; the input reads as it did. -/
def techHasUptoRow : OpenClaim := { program := "ytpcahneiinjdmaa", sum := "07c3c750c4eca09bbcfc5e53e750acd65509b3730207165281527877c7a899d2", func := "skirmish/skirmishlaw29.TechHas", spec := "techHas", inPlace := ["slices.overlaps[string]"], unfollowed := true, recurses := true, apart := false, narrowed := true }
def TechHasUptoSaid : Prop := techHasUptoRow.holds Try.pinned (OpenSpec.upto techHasSpec)

/-- 'skirmishlaw29.TechClosures', WHERE WHAT IT READS IS OF BULK AT MOST 1048576: true; the input reads as it did. -/
def techClosuresUptoRow : OpenClaim := { program := "ytpcahneiinjdmaa", sum := "07c3c750c4eca09bbcfc5e53e750acd65509b3730207165281527877c7a899d2", func := "skirmish/skirmishlaw29.TechClosures", spec := "techClosures", inPlace := ["slices.overlaps[string]"], unfollowed := true, recurses := true, apart := false, narrowed := true }
def TechClosuresUptoSaid : Prop := techClosuresUptoRow.holds Try.pinned (OpenSpec.upto techClosuresSpec)

/-- 'skirmishlaw29.TechClosed', WHERE WHAT IT READS IS OF BULK AT MOST 1048576: true; the input reads as it did. -/
def techClosedUptoRow : OpenClaim := { program := "ytpcahneiinjdmaa", sum := "07c3c750c4eca09bbcfc5e53e750acd65509b3730207165281527877c7a899d2", func := "skirmish/skirmishlaw29.TechClosed", spec := "techClosed", inPlace := ["slices.overlaps[string]"], unfollowed := true, recurses := true, apart := false, narrowed := true }
def TechClosedUptoSaid : Prop := techClosedUptoRow.holds Try.pinned (OpenSpec.upto techClosedSpec)

/-- 'skirmishlaw29.TechLearns', WHERE WHAT IT READS IS OF BULK AT MOST 1048576: true; the input reads as it did. -/
def techLearnsUptoRow : OpenClaim := { program := "ytpcahneiinjdmaa", sum := "07c3c750c4eca09bbcfc5e53e750acd65509b3730207165281527877c7a899d2", func := "skirmish/skirmishlaw29.TechLearns", spec := "techLearns", inPlace := ["slices.overlaps[string]"], unfollowed := true, recurses := true, apart := false, narrowed := true }
def TechLearnsUptoSaid : Prop := techLearnsUptoRow.holds Try.pinned (OpenSpec.upto techLearnsSpec)

/-- 'skirmishlaw29.TechKeeps', WHERE WHAT IT READS IS OF BULK AT MOST 1048576: true; the input reads as it did. -/
def techKeepsUptoRow : OpenClaim := { program := "ytpcahneiinjdmaa", sum := "07c3c750c4eca09bbcfc5e53e750acd65509b3730207165281527877c7a899d2", func := "skirmish/skirmishlaw29.TechKeeps", spec := "techKeeps", inPlace := ["slices.overlaps[string]"], unfollowed := true, recurses := true, apart := false, narrowed := true }
def TechKeepsUptoSaid : Prop := techKeepsUptoRow.holds Try.pinned (OpenSpec.upto techKeepsSpec)

end Rows
end Go.Proofs.Ytpcahneiinjdmaa
