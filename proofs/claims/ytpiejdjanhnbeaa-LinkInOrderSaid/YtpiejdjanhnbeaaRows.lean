/-
  No cell of these rows narrows 'for every input' (looked for: loops, veiled, ifaces, maps, wideKeys, modest, calm, conditions, laid).
  DERIVED. THE GIVEN ROWS OF THIS SEAT. 4 by the template 'for every input the law returns true; each argument reads behind the call as it read before'; 0 by the template 'total and deterministic' (their statements: YtpiejdjanhnbeaaTotals.lean).
  GIVEN WITH THE SEED: the statements are not yours to turn. If you find one false, say at which input.
  Laid BY PROGRAM, IN A SANDBOX (cutbox-rows.mjs): the forced cells as the released guide's own fill.sh prints them over the translation c9e03e4600fd90ba… (all of the seat's roots in one cut). By AI agents, Wed Nov 11 2026. No macro, syntax, notation, axiom, sorry.
-/
import Derived.Test.YtpiejdjanhnbeaaChecked
import GoSem.Claim
import GoSem.ClaimJoined
import GoSem.ClaimMapViews
import Derived.JoinedTies
import Derived.KernelRfl
namespace Go.Proofs.Ytpiejdjanhnbeaa
/- THE CELL 'sum', in the pinned program and in every row, IS THE sha256 OF THE DUMP (.gsa) THAT YtpiejdjanhnbeaaProg.lean LOADS. Nothing in Lean hashes anything: it is a label: what it is worth is what the hold of that sum in a sandbox is worth. -/
noncomputable def Try.pinned : Pinned := { name := "ytpiejdjanhnbeaa", sum := "c9e03e4600fd90ba2527048f65f0f67f91524259db7e2770ff156cee8f417a9c", checked := Try.checked }
namespace Rows
def none {H : Type} : Left H := { results := [], args := [] }

/-- 'skirmishlaw47.LinkSends': WHATEVER THE INPUT: true; the input reads as it did. -/
def linkSendsSpec : ChangeSpec := { name := "linkSends", fn := fun _ => fun
  | [d1, d2, d3] => { results := [.lit (.bool true)], args := [d1, d2, d3] }
  | _ => none }
def linkSendsRow : OpenClaim := { program := "ytpiejdjanhnbeaa", sum := "c9e03e4600fd90ba2527048f65f0f67f91524259db7e2770ff156cee8f417a9c", func := "skirmish/skirmishlaw47.LinkSends", spec := "linkSends", inPlace := ["internal/abi.NoEscape"], unfollowed := true, recurses := true, apart := false }
def LinkSendsSaid : Prop := linkSendsRow.holds Try.pinned (OpenSpec.ofChange linkSendsSpec)

/-- ITS FALSE NEIGHBOUR: 'it returns false'. Refute it at one input. -/
def linkSendsWrong : ChangeSpec := { name := "linkSends", fn := fun _ => fun
  | [d1, d2, d3] => { results := [.lit (.bool false)], args := [d1, d2, d3] }
  | _ => none }
def LinkSendsWrongFalsely : Prop := linkSendsRow.holds Try.pinned (OpenSpec.ofChange linkSendsWrong)

/-- 'skirmishlaw47.LinkReceives': WHATEVER THE INPUT: true; the input reads as it did. -/
def linkReceivesSpec : ChangeSpec := { name := "linkReceives", fn := fun _ => fun
  | [d1, d2] => { results := [.lit (.bool true)], args := [d1, d2] }
  | _ => none }
def linkReceivesRow : OpenClaim := { program := "ytpiejdjanhnbeaa", sum := "c9e03e4600fd90ba2527048f65f0f67f91524259db7e2770ff156cee8f417a9c", func := "skirmish/skirmishlaw47.LinkReceives", spec := "linkReceives", inPlace := ["internal/abi.NoEscape"], unfollowed := true, recurses := true, apart := false }
def LinkReceivesSaid : Prop := linkReceivesRow.holds Try.pinned (OpenSpec.ofChange linkReceivesSpec)

/-- ITS FALSE NEIGHBOUR: 'it returns false'. Refute it at one input. -/
def linkReceivesWrong : ChangeSpec := { name := "linkReceives", fn := fun _ => fun
  | [d1, d2] => { results := [.lit (.bool false)], args := [d1, d2] }
  | _ => none }
def LinkReceivesWrongFalsely : Prop := linkReceivesRow.holds Try.pinned (OpenSpec.ofChange linkReceivesWrong)

/-- 'skirmishlaw47.LinkRoundTrip': WHATEVER THE INPUT: true; the input reads as it did. -/
def linkRoundTripSpec : ChangeSpec := { name := "linkRoundTrip", fn := fun _ => fun
  | [d1, d2] => { results := [.lit (.bool true)], args := [d1, d2] }
  | _ => none }
def linkRoundTripRow : OpenClaim := { program := "ytpiejdjanhnbeaa", sum := "c9e03e4600fd90ba2527048f65f0f67f91524259db7e2770ff156cee8f417a9c", func := "skirmish/skirmishlaw47.LinkRoundTrip", spec := "linkRoundTrip", inPlace := ["internal/abi.NoEscape"], unfollowed := true, recurses := true, apart := false }
def LinkRoundTripSaid : Prop := linkRoundTripRow.holds Try.pinned (OpenSpec.ofChange linkRoundTripSpec)

/-- ITS FALSE NEIGHBOUR: 'it returns false'. Refute it at one input. -/
def linkRoundTripWrong : ChangeSpec := { name := "linkRoundTrip", fn := fun _ => fun
  | [d1, d2] => { results := [.lit (.bool false)], args := [d1, d2] }
  | _ => none }
def LinkRoundTripWrongFalsely : Prop := linkRoundTripRow.holds Try.pinned (OpenSpec.ofChange linkRoundTripWrong)

/-- 'skirmishlaw47.LinkInOrder': WHATEVER THE INPUT: true; the input reads as it did. -/
def linkInOrderSpec : ChangeSpec := { name := "linkInOrder", fn := fun _ => fun
  | [d] => { results := [.lit (.bool true)], args := [d] }
  | _ => none }
def linkInOrderRow : OpenClaim := { program := "ytpiejdjanhnbeaa", sum := "c9e03e4600fd90ba2527048f65f0f67f91524259db7e2770ff156cee8f417a9c", func := "skirmish/skirmishlaw47.LinkInOrder", spec := "linkInOrder", inPlace := ["internal/abi.NoEscape"], unfollowed := true, recurses := true, apart := false }
def LinkInOrderSaid : Prop := linkInOrderRow.holds Try.pinned (OpenSpec.ofChange linkInOrderSpec)

/-- ITS FALSE NEIGHBOUR: 'it returns false'. Refute it at one input. -/
def linkInOrderWrong : ChangeSpec := { name := "linkInOrder", fn := fun _ => fun
  | [d] => { results := [.lit (.bool false)], args := [d] }
  | _ => none }
def LinkInOrderWrongFalsely : Prop := linkInOrderRow.holds Try.pinned (OpenSpec.ofChange linkInOrderWrong)

/- THE SECOND FORM. 'bulk': how many values and letters a reading holds, each counted each time it is reached (what is shared counts as often as it is met; a slice's spare places count too). A statement '..UptoSaid' is the law's where the arguments, and the package variables that the reading takes, are together of bulk at most 1048576: NARROWER than '..Said'. Prove '..Said' where nothing that the law and all that it calls make is longer than what came in: it says more and counts as full. Else prove '..UptoSaid'. A law counts once. -/
mutual
def uptoBulk {H : Type} : DataW H → Nat
  | .lit (.string bytes) => bytes.length + 1
  | .lit _ => 1
  | .nil => 1
  | .ptr d => uptoBulk d + 1
  | .slice elems spare => uptoBulkAll elems + uptoBulkAll spare + 1
  | .agg parts => uptoBulkAll parts + 1
  | .iface _ d => uptoBulk d + 1
  | .map entries => uptoBulkEntries entries + 1
  | .held _ => 1
def uptoBulkAll {H : Type} : List (DataW H) → Nat
  | [] => 0
  | d :: r => uptoBulk d + uptoBulkAll r
def uptoBulkEntries {H : Type} : List (Lit × DataW H) → Nat
  | [] => 0
  | x :: r => uptoBulkEntry x + uptoBulkEntries r
def uptoBulkEntry {H : Type} : Lit × DataW H → Nat
  | (.string bytes, d) => bytes.length + uptoBulk d + 1
  | (_, d) => uptoBulk d + 1
 end
def uptoSmall : (H : Type) → List (DataW H) → Bool := fun _ ds => decide (uptoBulkAll ds ≤ 1048576)
def OpenSpec.upto (s : _root_.Go.ChangeSpec) : _root_.Go.OpenSpec := { _root_.Go.OpenSpec.ofChange s with cond := some uptoSmall }

/-- 'skirmishlaw47.LinkSends', WHERE WHAT IT READS IS OF BULK AT MOST 1048576: true; the input reads as it did. -/
def linkSendsUptoRow : OpenClaim := { program := "ytpiejdjanhnbeaa", sum := "c9e03e4600fd90ba2527048f65f0f67f91524259db7e2770ff156cee8f417a9c", func := "skirmish/skirmishlaw47.LinkSends", spec := "linkSends", inPlace := ["internal/abi.NoEscape"], unfollowed := true, recurses := true, apart := false, narrowed := true }
def LinkSendsUptoSaid : Prop := linkSendsUptoRow.holds Try.pinned (OpenSpec.upto linkSendsSpec)

/-- 'skirmishlaw47.LinkReceives', WHERE WHAT IT READS IS OF BULK AT MOST 1048576: true; the input reads as it did. -/
def linkReceivesUptoRow : OpenClaim := { program := "ytpiejdjanhnbeaa", sum := "c9e03e4600fd90ba2527048f65f0f67f91524259db7e2770ff156cee8f417a9c", func := "skirmish/skirmishlaw47.LinkReceives", spec := "linkReceives", inPlace := ["internal/abi.NoEscape"], unfollowed := true, recurses := true, apart := false, narrowed := true }
def LinkReceivesUptoSaid : Prop := linkReceivesUptoRow.holds Try.pinned (OpenSpec.upto linkReceivesSpec)

/-- 'skirmishlaw47.LinkRoundTrip', WHERE WHAT IT READS IS OF BULK AT MOST 1048576: true; the input reads as it did. -/
def linkRoundTripUptoRow : OpenClaim := { program := "ytpiejdjanhnbeaa", sum := "c9e03e4600fd90ba2527048f65f0f67f91524259db7e2770ff156cee8f417a9c", func := "skirmish/skirmishlaw47.LinkRoundTrip", spec := "linkRoundTrip", inPlace := ["internal/abi.NoEscape"], unfollowed := true, recurses := true, apart := false, narrowed := true }
def LinkRoundTripUptoSaid : Prop := linkRoundTripUptoRow.holds Try.pinned (OpenSpec.upto linkRoundTripSpec)

/-- 'skirmishlaw47.LinkInOrder', WHERE WHAT IT READS IS OF BULK AT MOST 1048576: true; the input reads as it did. -/
def linkInOrderUptoRow : OpenClaim := { program := "ytpiejdjanhnbeaa", sum := "c9e03e4600fd90ba2527048f65f0f67f91524259db7e2770ff156cee8f417a9c", func := "skirmish/skirmishlaw47.LinkInOrder", spec := "linkInOrder", inPlace := ["internal/abi.NoEscape"], unfollowed := true, recurses := true, apart := false, narrowed := true }
def LinkInOrderUptoSaid : Prop := linkInOrderUptoRow.holds Try.pinned (OpenSpec.upto linkInOrderSpec)

end Rows
end Go.Proofs.Ytpiejdjanhnbeaa
