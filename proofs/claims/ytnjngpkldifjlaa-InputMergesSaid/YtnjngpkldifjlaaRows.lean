/-
  No cell of these rows narrows 'for every input' (looked for: loops, veiled, ifaces, maps, wideKeys, modest, calm, conditions, laid).
  DERIVED. THE GIVEN ROWS OF THIS SEAT. 5 by the template 'for every input the law returns true; each argument reads behind the call as it read before'; 0 by the template 'total and deterministic' (their statements: YtnjngpkldifjlaaTotals.lean).
  GIVEN WITH THE SEED: the statements are not yours to turn. If you find one false, say at which input.
  Laid BY PROGRAM, IN A SANDBOX (cutbox-rows.mjs): the forced cells as the released guide's own fill.sh prints them over the translation b163e8d7b4b1d7c6… (all of the seat's roots in one cut). By AI agents, Wed Nov 11 2026. No macro, syntax, notation, axiom, sorry.
-/
import Derived.Test.YtnjngpkldifjlaaChecked
import GoSem.Claim
import GoSem.ClaimJoined
import GoSem.ClaimMapViews
import Derived.JoinedTies
import Derived.KernelRfl
namespace Go.Proofs.Ytnjngpkldifjlaa
/- THE CELL 'sum', in the pinned program and in every row, IS THE sha256 OF THE DUMP (.gsa) THAT YtnjngpkldifjlaaProg.lean LOADS. Nothing in Lean hashes anything: it is a label: what it is worth is what the hold of that sum in a sandbox is worth. -/
noncomputable def Try.pinned : Pinned := { name := "ytnjngpkldifjlaa", sum := "b163e8d7b4b1d7c6c42bf7c135450d6677ff4902535838983c1f024ba4478d56", checked := Try.checked }
namespace Rows
def none {H : Type} : Left H := { results := [], args := [] }

/-- 'skirmishlaw46.InputValid': WHATEVER THE INPUT: true; the input reads as it did. -/
def inputValidSpec : ChangeSpec := { name := "inputValid", fn := fun _ => fun
  | [d1, d2] => { results := [.lit (.bool true)], args := [d1, d2] }
  | _ => none }
def inputValidRow : OpenClaim := { program := "ytnjngpkldifjlaa", sum := "b163e8d7b4b1d7c6c42bf7c135450d6677ff4902535838983c1f024ba4478d56", func := "skirmish/skirmishlaw46.InputValid", spec := "inputValid", inPlace := ["internal/abi.NoEscape"], unfollowed := true, recurses := true, apart := false }
def InputValidSaid : Prop := inputValidRow.holds Try.pinned (OpenSpec.ofChange inputValidSpec)

/-- ITS FALSE NEIGHBOUR: 'it returns false'. Refute it at one input. -/
def inputValidWrong : ChangeSpec := { name := "inputValid", fn := fun _ => fun
  | [d1, d2] => { results := [.lit (.bool false)], args := [d1, d2] }
  | _ => none }
def InputValidWrongFalsely : Prop := inputValidRow.holds Try.pinned (OpenSpec.ofChange inputValidWrong)

/-- 'skirmishlaw46.InputMergesAll': WHATEVER THE INPUT: true; the input reads as it did. -/
def inputMergesAllSpec : ChangeSpec := { name := "inputMergesAll", fn := fun _ => fun
  | [d] => { results := [.lit (.bool true)], args := [d] }
  | _ => none }
def inputMergesAllRow : OpenClaim := { program := "ytnjngpkldifjlaa", sum := "b163e8d7b4b1d7c6c42bf7c135450d6677ff4902535838983c1f024ba4478d56", func := "skirmish/skirmishlaw46.InputMergesAll", spec := "inputMergesAll", inPlace := ["internal/abi.NoEscape"], unfollowed := true, recurses := true, apart := false }
def InputMergesAllSaid : Prop := inputMergesAllRow.holds Try.pinned (OpenSpec.ofChange inputMergesAllSpec)

/-- ITS FALSE NEIGHBOUR: 'it returns false'. Refute it at one input. -/
def inputMergesAllWrong : ChangeSpec := { name := "inputMergesAll", fn := fun _ => fun
  | [d] => { results := [.lit (.bool false)], args := [d] }
  | _ => none }
def InputMergesAllWrongFalsely : Prop := inputMergesAllRow.holds Try.pinned (OpenSpec.ofChange inputMergesAllWrong)

/-- 'skirmishlaw46.InputMerges': WHATEVER THE INPUT: true; the input reads as it did. -/
def inputMergesSpec : ChangeSpec := { name := "inputMerges", fn := fun _ => fun
  | [d] => { results := [.lit (.bool true)], args := [d] }
  | _ => none }
def inputMergesRow : OpenClaim := { program := "ytnjngpkldifjlaa", sum := "b163e8d7b4b1d7c6c42bf7c135450d6677ff4902535838983c1f024ba4478d56", func := "skirmish/skirmishlaw46.InputMerges", spec := "inputMerges", inPlace := ["internal/abi.NoEscape"], unfollowed := true, recurses := true, apart := false }
def InputMergesSaid : Prop := inputMergesRow.holds Try.pinned (OpenSpec.ofChange inputMergesSpec)

/-- ITS FALSE NEIGHBOUR: 'it returns false'. Refute it at one input. -/
def inputMergesWrong : ChangeSpec := { name := "inputMerges", fn := fun _ => fun
  | [d] => { results := [.lit (.bool false)], args := [d] }
  | _ => none }
def InputMergesWrongFalsely : Prop := inputMergesRow.holds Try.pinned (OpenSpec.ofChange inputMergesWrong)

/-- 'skirmishlaw46.InputDecodes': WHATEVER THE INPUT: true; the input reads as it did. -/
def inputDecodesSpec : ChangeSpec := { name := "inputDecodes", fn := fun _ => fun
  | [d1, d2, d3] => { results := [.lit (.bool true)], args := [d1, d2, d3] }
  | _ => none }
def inputDecodesRow : OpenClaim := { program := "ytnjngpkldifjlaa", sum := "b163e8d7b4b1d7c6c42bf7c135450d6677ff4902535838983c1f024ba4478d56", func := "skirmish/skirmishlaw46.InputDecodes", spec := "inputDecodes", inPlace := ["internal/abi.NoEscape"], unfollowed := true, recurses := true, apart := false }
def InputDecodesSaid : Prop := inputDecodesRow.holds Try.pinned (OpenSpec.ofChange inputDecodesSpec)

/-- ITS FALSE NEIGHBOUR: 'it returns false'. Refute it at one input. -/
def inputDecodesWrong : ChangeSpec := { name := "inputDecodes", fn := fun _ => fun
  | [d1, d2, d3] => { results := [.lit (.bool false)], args := [d1, d2, d3] }
  | _ => none }
def InputDecodesWrongFalsely : Prop := inputDecodesRow.holds Try.pinned (OpenSpec.ofChange inputDecodesWrong)

/-- 'skirmishlaw46.InputRoundTrip': WHATEVER THE INPUT: true; the input reads as it did. -/
def inputRoundTripSpec : ChangeSpec := { name := "inputRoundTrip", fn := fun _ => fun
  | [d1, d2, d3] => { results := [.lit (.bool true)], args := [d1, d2, d3] }
  | _ => none }
def inputRoundTripRow : OpenClaim := { program := "ytnjngpkldifjlaa", sum := "b163e8d7b4b1d7c6c42bf7c135450d6677ff4902535838983c1f024ba4478d56", func := "skirmish/skirmishlaw46.InputRoundTrip", spec := "inputRoundTrip", inPlace := ["internal/abi.NoEscape"], unfollowed := true, recurses := true, apart := false }
def InputRoundTripSaid : Prop := inputRoundTripRow.holds Try.pinned (OpenSpec.ofChange inputRoundTripSpec)

/-- ITS FALSE NEIGHBOUR: 'it returns false'. Refute it at one input. -/
def inputRoundTripWrong : ChangeSpec := { name := "inputRoundTrip", fn := fun _ => fun
  | [d1, d2, d3] => { results := [.lit (.bool false)], args := [d1, d2, d3] }
  | _ => none }
def InputRoundTripWrongFalsely : Prop := inputRoundTripRow.holds Try.pinned (OpenSpec.ofChange inputRoundTripWrong)

/- THE SECOND FORM. 'bulk': how many values and letters a reading holds, each counted each time it is reached (what is shared counts as often as it is met; a slice's spare places count too). A statement '..UptoSaid' is the law's where the arguments, and the package variables that the reading takes, are together of bulk at most 1048576: NARROWER than '..Said'. Prove '..Said' where nothing that the law and all that it calls make is longer than what came in: it says more and counts as full. Else prove '..UptoSaid'. A law counts once. -/
mutual
def uptoBulk {H : Type} : DataW H → Nat
  | .lit (.string bytes) => bytes.length + 1
  | .lit _ => 1
  | .nil => 1
  | .ptr d => uptoBulk d + 1
  | .slice elems spare => uptoBulkAll elems + uptoBulkAll spare + 1
  | .agg parts => uptoBulkAll parts + 1
  | .iface _ d => uptoBulk d + 1
  | .map entries => uptoBulkEntries entries + 1
  | .held _ => 1
def uptoBulkAll {H : Type} : List (DataW H) → Nat
  | [] => 0
  | d :: r => uptoBulk d + uptoBulkAll r
def uptoBulkEntries {H : Type} : List (Lit × DataW H) → Nat
  | [] => 0
  | x :: r => uptoBulkEntry x + uptoBulkEntries r
def uptoBulkEntry {H : Type} : Lit × DataW H → Nat
  | (.string bytes, d) => bytes.length + uptoBulk d + 1
  | (_, d) => uptoBulk d + 1
 end
def uptoSmall : (H : Type) → List (DataW H) → Bool := fun _ ds => decide (uptoBulkAll ds ≤ 1048576)
def OpenSpec.upto (s : _root_.Go.ChangeSpec) : _root_.Go.OpenSpec := { _root_.Go.OpenSpec.ofChange s with cond := some uptoSmall }

/-- 'skirmishlaw46.InputValid', WHERE WHAT IT READS IS OF BULK AT MOST 1048576: true; the input reads as it did. -/
def inputValidUptoRow : OpenClaim := { program := "ytnjngpkldifjlaa", sum := "b163e8d7b4b1d7c6c42bf7c135450d6677ff4902535838983c1f024ba4478d56", func := "skirmish/skirmishlaw46.InputValid", spec := "inputValid", inPlace := ["internal/abi.NoEscape"], unfollowed := true, recurses := true, apart := false, narrowed := true }
def InputValidUptoSaid : Prop := inputValidUptoRow.holds Try.pinned (OpenSpec.upto inputValidSpec)

/-- 'skirmishlaw46.InputMergesAll', WHERE WHAT IT READS IS OF BULK AT MOST 1048576: true; the input reads as it did. -/
def inputMergesAllUptoRow : OpenClaim := { program := "ytnjngpkldifjlaa", sum := "b163e8d7b4b1d7c6c42bf7c135450d6677ff4902535838983c1f024ba4478d56", func := "skirmish/skirmishlaw46.InputMergesAll", spec := "inputMergesAll", inPlace := ["internal/abi.NoEscape"], unfollowed := true, recurses := true, apart := false, narrowed := true }
def InputMergesAllUptoSaid : Prop := inputMergesAllUptoRow.holds Try.pinned (OpenSpec.upto inputMergesAllSpec)

/-- 'skirmishlaw46.InputMerges', WHERE WHAT IT READS IS OF BULK AT MOST 1048576: true; the input reads as it did. -/
def inputMergesUptoRow : OpenClaim := { program := "ytnjngpkldifjlaa", sum := "b163e8d7b4b1d7c6c42bf7c135450d6677ff4902535838983c1f024ba4478d56", func := "skirmish/skirmishlaw46.InputMerges", spec := "inputMerges", inPlace := ["internal/abi.NoEscape"], unfollowed := true, recurses := true, apart := false, narrowed := true }
def InputMergesUptoSaid : Prop := inputMergesUptoRow.holds Try.pinned (OpenSpec.upto inputMergesSpec)

/-- 'skirmishlaw46.InputDecodes', WHERE WHAT IT READS IS OF BULK AT MOST 1048576: true; the input reads as it did. -/
def inputDecodesUptoRow : OpenClaim := { program := "ytnjngpkldifjlaa", sum := "b163e8d7b4b1d7c6c42bf7c135450d6677ff4902535838983c1f024ba4478d56", func := "skirmish/skirmishlaw46.InputDecodes", spec := "inputDecodes", inPlace := ["internal/abi.NoEscape"], unfollowed := true, recurses := true, apart := false, narrowed := true }
def InputDecodesUptoSaid : Prop := inputDecodesUptoRow.holds Try.pinned (OpenSpec.upto inputDecodesSpec)

/-- 'skirmishlaw46.InputRoundTrip', WHERE WHAT IT READS IS OF BULK AT MOST 1048576: true; the input reads as it did. -/
def inputRoundTripUptoRow : OpenClaim := { program := "ytnjngpkldifjlaa", sum := "b163e8d7b4b1d7c6c42bf7c135450d6677ff4902535838983c1f024ba4478d56", func := "skirmish/skirmishlaw46.InputRoundTrip", spec := "inputRoundTrip", inPlace := ["internal/abi.NoEscape"], unfollowed := true, recurses := true, apart := false, narrowed := true }
def InputRoundTripUptoSaid : Prop := inputRoundTripUptoRow.holds Try.pinned (OpenSpec.upto inputRoundTripSpec)

end Rows
end Go.Proofs.Ytnjngpkldifjlaa
