/-
  No cell of these rows narrows 'for every input' (looked for: loops, veiled, ifaces, maps, wideKeys, modest, calm, conditions, laid).
  DERIVED. THE GIVEN ROWS OF THIS SEAT. 6 by the template 'for every input the law returns true; each argument reads behind the call as it read before'; 0 by the template 'total and deterministic' (their statements: YtdbhfpngfjlgjaaTotals.lean).
  GIVEN WITH THE SEED: the statements are not yours to turn. If you find one false, say at which input.
  Laid BY PROGRAM, IN A SANDBOX (cutbox-rows.mjs): the forced cells as the released guide's own fill.sh prints them over the translation ab9f31299d950d06… (all of the seat's roots in one cut). By AI agents, Wed Nov 11 2026. No macro, syntax, notation, axiom, sorry.
-/
import Derived.Test.YtdbhfpngfjlgjaaChecked
import GoSem.Claim
import GoSem.ClaimJoined
import GoSem.ClaimMapViews
import Derived.JoinedTies
import Derived.KernelRfl
namespace Go.Proofs.Ytdbhfpngfjlgjaa
/- THE CELL 'sum', in the pinned program and in every row, IS THE sha256 OF THE DUMP (.gsa) THAT YtdbhfpngfjlgjaaProg.lean LOADS. Nothing in Lean hashes anything: it is a label: what it is worth is what the hold of that sum in a sandbox is worth. -/
noncomputable def Try.pinned : Pinned := { name := "ytdbhfpngfjlgjaa", sum := "ab9f31299d950d06332e9aff308b4353e02bf8e87e0f179dc729bc081ce88185", checked := Try.checked }
namespace Rows
def none {H : Type} : Left H := { results := [], args := [] }

/-- 'skirmishlaw49.GateNews': WHATEVER THE INPUT: true; the input reads as it did. -/
def gateNewsSpec : ChangeSpec := { name := "gateNews", fn := fun _ => fun
  | [d1, d2, d3] => { results := [.lit (.bool true)], args := [d1, d2, d3] }
  | _ => none }
def gateNewsRow : OpenClaim := { program := "ytdbhfpngfjlgjaa", sum := "ab9f31299d950d06332e9aff308b4353e02bf8e87e0f179dc729bc081ce88185", func := "skirmish/skirmishlaw49.GateNews", spec := "gateNews", inPlace := ["slices.overlaps[skirmish/api.Batch]"], unfollowed := true, recurses := true, apart := false }
def GateNewsSaid : Prop := gateNewsRow.holds Try.pinned (OpenSpec.ofChange gateNewsSpec)

/-- ITS FALSE NEIGHBOUR: 'it returns false'. Refute it at one input. -/
def gateNewsWrong : ChangeSpec := { name := "gateNews", fn := fun _ => fun
  | [d1, d2, d3] => { results := [.lit (.bool false)], args := [d1, d2, d3] }
  | _ => none }
def GateNewsWrongFalsely : Prop := gateNewsRow.holds Try.pinned (OpenSpec.ofChange gateNewsWrong)

/-- 'skirmishlaw49.GateAdds': WHATEVER THE INPUT: true; the input reads as it did. -/
def gateAddsSpec : ChangeSpec := { name := "gateAdds", fn := fun _ => fun
  | [d1, d2] => { results := [.lit (.bool true)], args := [d1, d2] }
  | _ => none }
def gateAddsRow : OpenClaim := { program := "ytdbhfpngfjlgjaa", sum := "ab9f31299d950d06332e9aff308b4353e02bf8e87e0f179dc729bc081ce88185", func := "skirmish/skirmishlaw49.GateAdds", spec := "gateAdds", inPlace := ["slices.overlaps[skirmish/api.Batch]"], unfollowed := true, recurses := true, apart := false }
def GateAddsSaid : Prop := gateAddsRow.holds Try.pinned (OpenSpec.ofChange gateAddsSpec)

/-- ITS FALSE NEIGHBOUR: 'it returns false'. Refute it at one input. -/
def gateAddsWrong : ChangeSpec := { name := "gateAdds", fn := fun _ => fun
  | [d1, d2] => { results := [.lit (.bool false)], args := [d1, d2] }
  | _ => none }
def GateAddsWrongFalsely : Prop := gateAddsRow.holds Try.pinned (OpenSpec.ofChange gateAddsWrong)

/-- 'skirmishlaw49.GateOpens': WHATEVER THE INPUT: true; the input reads as it did. -/
def gateOpensSpec : ChangeSpec := { name := "gateOpens", fn := fun _ => fun
  | [d1, d2] => { results := [.lit (.bool true)], args := [d1, d2] }
  | _ => none }
def gateOpensRow : OpenClaim := { program := "ytdbhfpngfjlgjaa", sum := "ab9f31299d950d06332e9aff308b4353e02bf8e87e0f179dc729bc081ce88185", func := "skirmish/skirmishlaw49.GateOpens", spec := "gateOpens", inPlace := ["slices.overlaps[skirmish/api.Batch]"], unfollowed := true, recurses := true, apart := false }
def GateOpensSaid : Prop := gateOpensRow.holds Try.pinned (OpenSpec.ofChange gateOpensSpec)

/-- ITS FALSE NEIGHBOUR: 'it returns false'. Refute it at one input. -/
def gateOpensWrong : ChangeSpec := { name := "gateOpens", fn := fun _ => fun
  | [d1, d2] => { results := [.lit (.bool false)], args := [d1, d2] }
  | _ => none }
def GateOpensWrongFalsely : Prop := gateOpensRow.holds Try.pinned (OpenSpec.ofChange gateOpensWrong)

/-- 'skirmishlaw49.GateTakes': WHATEVER THE INPUT: true; the input reads as it did. -/
def gateTakesSpec : ChangeSpec := { name := "gateTakes", fn := fun _ => fun
  | [d] => { results := [.lit (.bool true)], args := [d] }
  | _ => none }
def gateTakesRow : OpenClaim := { program := "ytdbhfpngfjlgjaa", sum := "ab9f31299d950d06332e9aff308b4353e02bf8e87e0f179dc729bc081ce88185", func := "skirmish/skirmishlaw49.GateTakes", spec := "gateTakes", inPlace := ["slices.overlaps[skirmish/api.Batch]"], unfollowed := true, recurses := true, apart := false }
def GateTakesSaid : Prop := gateTakesRow.holds Try.pinned (OpenSpec.ofChange gateTakesSpec)

/-- ITS FALSE NEIGHBOUR: 'it returns false'. Refute it at one input. -/
def gateTakesWrong : ChangeSpec := { name := "gateTakes", fn := fun _ => fun
  | [d] => { results := [.lit (.bool false)], args := [d] }
  | _ => none }
def GateTakesWrongFalsely : Prop := gateTakesRow.holds Try.pinned (OpenSpec.ofChange gateTakesWrong)

/-- 'skirmishlaw49.GateAgrees': WHATEVER THE INPUT: true; the input reads as it did. -/
def gateAgreesSpec : ChangeSpec := { name := "gateAgrees", fn := fun _ => fun
  | [d1, d2, d3] => { results := [.lit (.bool true)], args := [d1, d2, d3] }
  | _ => none }
def gateAgreesRow : OpenClaim := { program := "ytdbhfpngfjlgjaa", sum := "ab9f31299d950d06332e9aff308b4353e02bf8e87e0f179dc729bc081ce88185", func := "skirmish/skirmishlaw49.GateAgrees", spec := "gateAgrees", inPlace := ["slices.overlaps[skirmish/api.Batch]"], unfollowed := true, recurses := true, apart := false }
def GateAgreesSaid : Prop := gateAgreesRow.holds Try.pinned (OpenSpec.ofChange gateAgreesSpec)

/-- ITS FALSE NEIGHBOUR: 'it returns false'. Refute it at one input. -/
def gateAgreesWrong : ChangeSpec := { name := "gateAgrees", fn := fun _ => fun
  | [d1, d2, d3] => { results := [.lit (.bool false)], args := [d1, d2, d3] }
  | _ => none }
def GateAgreesWrongFalsely : Prop := gateAgreesRow.holds Try.pinned (OpenSpec.ofChange gateAgreesWrong)

/-- 'skirmishlaw49.GateRuns': WHATEVER THE INPUT: true; the input reads as it did. -/
def gateRunsSpec : ChangeSpec := { name := "gateRuns", fn := fun _ => fun
  | [d1, d2, d3] => { results := [.lit (.bool true)], args := [d1, d2, d3] }
  | _ => none }
def gateRunsRow : OpenClaim := { program := "ytdbhfpngfjlgjaa", sum := "ab9f31299d950d06332e9aff308b4353e02bf8e87e0f179dc729bc081ce88185", func := "skirmish/skirmishlaw49.GateRuns", spec := "gateRuns", inPlace := ["slices.overlaps[skirmish/api.Batch]"], unfollowed := true, recurses := true, apart := false }
def GateRunsSaid : Prop := gateRunsRow.holds Try.pinned (OpenSpec.ofChange gateRunsSpec)

/-- ITS FALSE NEIGHBOUR: 'it returns false'. Refute it at one input. -/
def gateRunsWrong : ChangeSpec := { name := "gateRuns", fn := fun _ => fun
  | [d1, d2, d3] => { results := [.lit (.bool false)], args := [d1, d2, d3] }
  | _ => none }
def GateRunsWrongFalsely : Prop := gateRunsRow.holds Try.pinned (OpenSpec.ofChange gateRunsWrong)

/- THE SECOND FORM. 'bulk': how many values and letters a reading holds, each counted each time it is reached (what is shared counts as often as it is met; a slice's spare places count too). A statement '..UptoSaid' is the law's where the arguments, and the package variables that the reading takes, are together of bulk at most 1048576: NARROWER than '..Said'. Prove '..Said' where nothing that the law and all that it calls make is longer than what came in: it says more and counts as full. Else prove '..UptoSaid'. A law counts once. -/
mutual
def uptoBulk {H : Type} : DataW H → Nat
  | .lit (.string bytes) => bytes.length + 1
  | .lit _ => 1
  | .nil => 1
  | .ptr d => uptoBulk d + 1
  | .slice elems spare => uptoBulkAll elems + uptoBulkAll spare + 1
  | .agg parts => uptoBulkAll parts + 1
  | .iface _ d => uptoBulk d + 1
  | .map entries => uptoBulkEntries entries + 1
  | .held _ => 1
def uptoBulkAll {H : Type} : List (DataW H) → Nat
  | [] => 0
  | d :: r => uptoBulk d + uptoBulkAll r
def uptoBulkEntries {H : Type} : List (Lit × DataW H) → Nat
  | [] => 0
  | x :: r => uptoBulkEntry x + uptoBulkEntries r
def uptoBulkEntry {H : Type} : Lit × DataW H → Nat
  | (.string bytes, d) => bytes.length + uptoBulk d + 1
  | (_, d) => uptoBulk d + 1
 end
def uptoSmall : (H : Type) → List (DataW H) → Bool := fun _ ds => decide (uptoBulkAll ds ≤ 1048576)
def OpenSpec.upto (s : _root_.Go.ChangeSpec) : _root_.Go.OpenSpec := { _root_.Go.OpenSpec.ofChange s with cond := some uptoSmall }

/-- 'skirmishlaw49.GateNews', WHERE WHAT IT READS IS OF BULK AT MOST 1048576: true; the input reads as it did. -/
def gateNewsUptoRow : OpenClaim := { program := "ytdbhfpngfjlgjaa", sum := "ab9f31299d950d06332e9aff308b4353e02bf8e87e0f179dc729bc081ce88185", func := "skirmish/skirmishlaw49.GateNews", spec := "gateNews", inPlace := ["slices.overlaps[skirmish/api.Batch]"], unfollowed := true, recurses := true, apart := false, narrowed := true }
def GateNewsUptoSaid : Prop := gateNewsUptoRow.holds Try.pinned (OpenSpec.upto gateNewsSpec)

/-- 'skirmishlaw49.GateAdds', WHERE WHAT IT READS IS OF BULK AT MOST 1048576: true; the input reads as it did. -/
def gateAddsUptoRow : OpenClaim := { program := "ytdbhfpngfjlgjaa", sum := "ab9f31299d950d06332e9aff308b4353e02bf8e87e0f179dc729bc081ce88185", func := "skirmish/skirmishlaw49.GateAdds", spec := "gateAdds", inPlace := ["slices.overlaps[skirmish/api.Batch]"], unfollowed := true, recurses := true, apart := false, narrowed := true }
def GateAddsUptoSaid : Prop := gateAddsUptoRow.holds Try.pinned (OpenSpec.upto gateAddsSpec)

/-- 'skirmishlaw49.GateOpens', WHERE WHAT IT READS IS OF BULK AT MOST 1048576: true; the input reads as it did. -/
def gateOpensUptoRow : OpenClaim := { program := "ytdbhfpngfjlgjaa", sum := "ab9f31299d950d06332e9aff308b4353e02bf8e87e0f179dc729bc081ce88185", func := "skirmish/skirmishlaw49.GateOpens", spec := "gateOpens", inPlace := ["slices.overlaps[skirmish/api.Batch]"], unfollowed := true, recurses := true, apart := false, narrowed := true }
def GateOpensUptoSaid : Prop := gateOpensUptoRow.holds Try.pinned (OpenSpec.upto gateOpensSpec)

/-- 'skirmishlaw49.GateTakes', WHERE WHAT IT READS IS OF BULK AT MOST 1048576: true; the input reads as it did. -/
def gateTakesUptoRow : OpenClaim := { program := "ytdbhfpngfjlgjaa", sum := "ab9f31299d950d06332e9aff308b4353e02bf8e87e0f179dc729bc081ce88185", func := "skirmish/skirmishlaw49.GateTakes", spec := "gateTakes", inPlace := ["slices.overlaps[skirmish/api.Batch]"], unfollowed := true, recurses := true, apart := false, narrowed := true }
def GateTakesUptoSaid : Prop := gateTakesUptoRow.holds Try.pinned (OpenSpec.upto gateTakesSpec)

/-- 'skirmishlaw49.GateAgrees', WHERE WHAT IT READS IS OF BULK AT MOST 1048576: true; the input reads as it did. -/
def gateAgreesUptoRow : OpenClaim := { program := "ytdbhfpngfjlgjaa", sum := "ab9f31299d950d06332e9aff308b4353e02bf8e87e0f179dc729bc081ce88185", func := "skirmish/skirmishlaw49.GateAgrees", spec := "gateAgrees", inPlace := ["slices.overlaps[skirmish/api.Batch]"], unfollowed := true, recurses := true, apart := false, narrowed := true }
def GateAgreesUptoSaid : Prop := gateAgreesUptoRow.holds Try.pinned (OpenSpec.upto gateAgreesSpec)

/-- 'skirmishlaw49.GateRuns', WHERE WHAT IT READS IS OF BULK AT MOST 1048576: true; the input reads as it did. -/
def gateRunsUptoRow : OpenClaim := { program := "ytdbhfpngfjlgjaa", sum := "ab9f31299d950d06332e9aff308b4353e02bf8e87e0f179dc729bc081ce88185", func := "skirmish/skirmishlaw49.GateRuns", spec := "gateRuns", inPlace := ["slices.overlaps[skirmish/api.Batch]"], unfollowed := true, recurses := true, apart := false, narrowed := true }
def GateRunsUptoSaid : Prop := gateRunsUptoRow.holds Try.pinned (OpenSpec.upto gateRunsSpec)

end Rows
end Go.Proofs.Ytdbhfpngfjlgjaa
