/-
  No cell of these rows narrows 'for every input' (looked for: loops, veiled, ifaces, maps, wideKeys, modest, calm, conditions, laid).
  DERIVED. THE GIVEN ROWS OF THIS SEAT. 5 by the template 'for every input the law returns true; each argument reads behind the call as it read before'; 0 by the template 'total and deterministic' (their statements: YtgamdchlgikaiaaTotals.lean).
  GIVEN WITH THE SEED: the statements are not yours to turn. If you find one false, say at which input.
  Laid BY PROGRAM, IN A SANDBOX (cutbox-rows.mjs): the forced cells as the released guide's own fill.sh prints them over the translation 538d069c93f19449… (all of the seat's roots in one cut). By AI agents, Wed Nov 11 2026. No macro, syntax, notation, axiom, sorry.
-/
import Derived.Test.YtgamdchlgikaiaaChecked
import GoSem.Claim
import GoSem.ClaimJoined
import GoSem.ClaimMapViews
import Derived.JoinedTies
import Derived.KernelRfl
namespace Go.Proofs.Ytgamdchlgikaiaa
/- THE CELL 'sum', in the pinned program and in every row, IS THE sha256 OF THE DUMP (.gsa) THAT YtgamdchlgikaiaaProg.lean LOADS. Nothing in Lean hashes anything: it is a label: what it is worth is what the hold of that sum in a sandbox is worth. -/
noncomputable def Try.pinned : Pinned := { name := "ytgamdchlgikaiaa", sum := "538d069c93f194499478094ed2c14b08297fad4827734d207add036a08684c47", checked := Try.checked }
namespace Rows
def none {H : Type} : Left H := { results := [], args := [] }

/-- 'skirmishlaw53.DesyncCompares': WHATEVER THE INPUT: true; the input reads as it did. -/
def desyncComparesSpec : ChangeSpec := { name := "desyncCompares", fn := fun _ => fun
  | [d1, d2] => { results := [.lit (.bool true)], args := [d1, d2] }
  | _ => none }
def desyncComparesRow : OpenClaim := { program := "ytgamdchlgikaiaa", sum := "538d069c93f194499478094ed2c14b08297fad4827734d207add036a08684c47", func := "skirmish/skirmishlaw53.DesyncCompares", spec := "desyncCompares", unfollowed := true, recurses := true, apart := false }
def DesyncComparesSaid : Prop := desyncComparesRow.holds Try.pinned (OpenSpec.ofChange desyncComparesSpec)

/-- ITS FALSE NEIGHBOUR: 'it returns false'. Refute it at one input. -/
def desyncComparesWrong : ChangeSpec := { name := "desyncCompares", fn := fun _ => fun
  | [d1, d2] => { results := [.lit (.bool false)], args := [d1, d2] }
  | _ => none }
def DesyncComparesWrongFalsely : Prop := desyncComparesRow.holds Try.pinned (OpenSpec.ofChange desyncComparesWrong)

/-- 'skirmishlaw53.DesyncBisects': WHATEVER THE INPUT: true; the input reads as it did. -/
def desyncBisectsSpec : ChangeSpec := { name := "desyncBisects", fn := fun _ => fun
  | [d1, d2] => { results := [.lit (.bool true)], args := [d1, d2] }
  | _ => none }
def desyncBisectsRow : OpenClaim := { program := "ytgamdchlgikaiaa", sum := "538d069c93f194499478094ed2c14b08297fad4827734d207add036a08684c47", func := "skirmish/skirmishlaw53.DesyncBisects", spec := "desyncBisects", unfollowed := true, recurses := true, apart := false }
def DesyncBisectsSaid : Prop := desyncBisectsRow.holds Try.pinned (OpenSpec.ofChange desyncBisectsSpec)

/-- ITS FALSE NEIGHBOUR: 'it returns false'. Refute it at one input. -/
def desyncBisectsWrong : ChangeSpec := { name := "desyncBisects", fn := fun _ => fun
  | [d1, d2] => { results := [.lit (.bool false)], args := [d1, d2] }
  | _ => none }
def DesyncBisectsWrongFalsely : Prop := desyncBisectsRow.holds Try.pinned (OpenSpec.ofChange desyncBisectsWrong)

/-- 'skirmishlaw53.DesyncFinds': WHATEVER THE INPUT: true; the input reads as it did. -/
def desyncFindsSpec : ChangeSpec := { name := "desyncFinds", fn := fun _ => fun
  | [d1, d2, d3] => { results := [.lit (.bool true)], args := [d1, d2, d3] }
  | _ => none }
def desyncFindsRow : OpenClaim := { program := "ytgamdchlgikaiaa", sum := "538d069c93f194499478094ed2c14b08297fad4827734d207add036a08684c47", func := "skirmish/skirmishlaw53.DesyncFinds", spec := "desyncFinds", unfollowed := true, recurses := true, apart := false }
def DesyncFindsSaid : Prop := desyncFindsRow.holds Try.pinned (OpenSpec.ofChange desyncFindsSpec)

/-- ITS FALSE NEIGHBOUR: 'it returns false'. Refute it at one input. -/
def desyncFindsWrong : ChangeSpec := { name := "desyncFinds", fn := fun _ => fun
  | [d1, d2, d3] => { results := [.lit (.bool false)], args := [d1, d2, d3] }
  | _ => none }
def DesyncFindsWrongFalsely : Prop := desyncFindsRow.holds Try.pinned (OpenSpec.ofChange desyncFindsWrong)

/-- 'skirmishlaw53.DesyncBlames': WHATEVER THE INPUT: true; the input reads as it did. -/
def desyncBlamesSpec : ChangeSpec := { name := "desyncBlames", fn := fun _ => fun
  | [d] => { results := [.lit (.bool true)], args := [d] }
  | _ => none }
def desyncBlamesRow : OpenClaim := { program := "ytgamdchlgikaiaa", sum := "538d069c93f194499478094ed2c14b08297fad4827734d207add036a08684c47", func := "skirmish/skirmishlaw53.DesyncBlames", spec := "desyncBlames", unfollowed := true, recurses := true, apart := false }
def DesyncBlamesSaid : Prop := desyncBlamesRow.holds Try.pinned (OpenSpec.ofChange desyncBlamesSpec)

/-- ITS FALSE NEIGHBOUR: 'it returns false'. Refute it at one input. -/
def desyncBlamesWrong : ChangeSpec := { name := "desyncBlames", fn := fun _ => fun
  | [d] => { results := [.lit (.bool false)], args := [d] }
  | _ => none }
def DesyncBlamesWrongFalsely : Prop := desyncBlamesRow.holds Try.pinned (OpenSpec.ofChange desyncBlamesWrong)

/-- 'skirmishlaw53.DesyncMajority': WHATEVER THE INPUT: true; the input reads as it did. -/
def desyncMajoritySpec : ChangeSpec := { name := "desyncMajority", fn := fun _ => fun
  | [d] => { results := [.lit (.bool true)], args := [d] }
  | _ => none }
def desyncMajorityRow : OpenClaim := { program := "ytgamdchlgikaiaa", sum := "538d069c93f194499478094ed2c14b08297fad4827734d207add036a08684c47", func := "skirmish/skirmishlaw53.DesyncMajority", spec := "desyncMajority", unfollowed := true, recurses := true, apart := false }
def DesyncMajoritySaid : Prop := desyncMajorityRow.holds Try.pinned (OpenSpec.ofChange desyncMajoritySpec)

/-- ITS FALSE NEIGHBOUR: 'it returns false'. Refute it at one input. -/
def desyncMajorityWrong : ChangeSpec := { name := "desyncMajority", fn := fun _ => fun
  | [d] => { results := [.lit (.bool false)], args := [d] }
  | _ => none }
def DesyncMajorityWrongFalsely : Prop := desyncMajorityRow.holds Try.pinned (OpenSpec.ofChange desyncMajorityWrong)

/- THE SECOND FORM. 'bulk': how many values and letters a reading holds, each counted each time it is reached (what is shared counts as often as it is met; a slice's spare places count too). A statement '..UptoSaid' is the law's where the arguments, and the package variables that the reading takes, are together of bulk at most 1048576: NARROWER than '..Said'. Prove '..Said' where nothing that the law and all that it calls make is longer than what came in: it says more and counts as full. Else prove '..UptoSaid'. A law counts once. -/
mutual
def uptoBulk {H : Type} : DataW H → Nat
  | .lit (.string bytes) => bytes.length + 1
  | .lit _ => 1
  | .nil => 1
  | .ptr d => uptoBulk d + 1
  | .slice elems spare => uptoBulkAll elems + uptoBulkAll spare + 1
  | .agg parts => uptoBulkAll parts + 1
  | .iface _ d => uptoBulk d + 1
  | .map entries => uptoBulkEntries entries + 1
  | .held _ => 1
def uptoBulkAll {H : Type} : List (DataW H) → Nat
  | [] => 0
  | d :: r => uptoBulk d + uptoBulkAll r
def uptoBulkEntries {H : Type} : List (Lit × DataW H) → Nat
  | [] => 0
  | x :: r => uptoBulkEntry x + uptoBulkEntries r
def uptoBulkEntry {H : Type} : Lit × DataW H → Nat
  | (.string bytes, d) => bytes.length + uptoBulk d + 1
  | (_, d) => uptoBulk d + 1
 end
def uptoSmall : (H : Type) → List (DataW H) → Bool := fun _ ds => decide (uptoBulkAll ds ≤ 1048576)
def OpenSpec.upto (s : _root_.Go.ChangeSpec) : _root_.Go.OpenSpec := { _root_.Go.OpenSpec.ofChange s with cond := some uptoSmall }

/-- 'skirmishlaw53.DesyncCompares', WHERE WHAT IT READS IS OF BULK AT MOST 1048576: true; the input reads as it did. -/
def desyncComparesUptoRow : OpenClaim := { program := "ytgamdchlgikaiaa", sum := "538d069c93f194499478094ed2c14b08297fad4827734d207add036a08684c47", func := "skirmish/skirmishlaw53.DesyncCompares", spec := "desyncCompares", unfollowed := true, recurses := true, apart := false, narrowed := true }
def DesyncComparesUptoSaid : Prop := desyncComparesUptoRow.holds Try.pinned (OpenSpec.upto desyncComparesSpec)

/-- 'skirmishlaw53.DesyncBisects', WHERE WHAT IT READS IS OF BULK AT MOST 1048576: true; the input reads as it did. -/
def desyncBisectsUptoRow : OpenClaim := { program := "ytgamdchlgikaiaa", sum := "538d069c93f194499478094ed2c14b08297fad4827734d207add036a08684c47", func := "skirmish/skirmishlaw53.DesyncBisects", spec := "desyncBisects", unfollowed := true, recurses := true, apart := false, narrowed := true }
def DesyncBisectsUptoSaid : Prop := desyncBisectsUptoRow.holds Try.pinned (OpenSpec.upto desyncBisectsSpec)

/-- 'skirmishlaw53.DesyncFinds', WHERE WHAT IT READS IS OF BULK AT MOST 1048576: true; the input reads as it did. -/
def desyncFindsUptoRow : OpenClaim := { program := "ytgamdchlgikaiaa", sum := "538d069c93f194499478094ed2c14b08297fad4827734d207add036a08684c47", func := "skirmish/skirmishlaw53.DesyncFinds", spec := "desyncFinds", unfollowed := true, recurses := true, apart := false, narrowed := true }
def DesyncFindsUptoSaid : Prop := desyncFindsUptoRow.holds Try.pinned (OpenSpec.upto desyncFindsSpec)

/-- 'skirmishlaw53.DesyncBlames', WHERE WHAT IT READS IS OF BULK AT MOST 1048576: true; the input reads as it did. -/
def desyncBlamesUptoRow : OpenClaim := { program := "ytgamdchlgikaiaa", sum := "538d069c93f194499478094ed2c14b08297fad4827734d207add036a08684c47", func := "skirmish/skirmishlaw53.DesyncBlames", spec := "desyncBlames", unfollowed := true, recurses := true, apart := false, narrowed := true }
def DesyncBlamesUptoSaid : Prop := desyncBlamesUptoRow.holds Try.pinned (OpenSpec.upto desyncBlamesSpec)

/-- 'skirmishlaw53.DesyncMajority', WHERE WHAT IT READS IS OF BULK AT MOST 1048576: true; the input reads as it did. -/
def desyncMajorityUptoRow : OpenClaim := { program := "ytgamdchlgikaiaa", sum := "538d069c93f194499478094ed2c14b08297fad4827734d207add036a08684c47", func := "skirmish/skirmishlaw53.DesyncMajority", spec := "desyncMajority", unfollowed := true, recurses := true, apart := false, narrowed := true }
def DesyncMajorityUptoSaid : Prop := desyncMajorityUptoRow.holds Try.pinned (OpenSpec.upto desyncMajoritySpec)

end Rows
end Go.Proofs.Ytgamdchlgikaiaa
