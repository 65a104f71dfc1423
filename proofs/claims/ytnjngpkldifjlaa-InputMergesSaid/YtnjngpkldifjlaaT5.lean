/- Short names of the program's struct types and of their codes: printed by a program. -/
import Derived.Test.YtnjngpkldifjlaaProg
import Derived.Test.YtnjngpkldifjlaaT1
import Derived.Test.YtnjngpkldifjlaaT4
namespace Go.Proofs.Ytnjngpkldifjlaa
open Go Go.Sk
abbrev VecT : Type := (Int × Int)
abbrev cVec : Ty := (.pair (.int .i64) (.int .i64))
abbrev CommandT : Type := (Int × (Int × ((List Int) × (VecT × (Int × (Int × (ByteArray × Bool)))))))
abbrev cCommand : Ty := (.pair (.int .i64) (.pair (.int .i64) (.pair (.slice (.int .i64)) (.pair cVec (.pair (.int .i64) (.pair (.int .i64) (.pair .str .bool)))))))
abbrev BatchT : Type := (Int × (Int × (Int × (List CommandT))))
abbrev cBatch : Ty := (.pair (.int .i64) (.pair (.int .i64) (.pair (.int .i64) (.slice cCommand))))
end Go.Proofs.Ytnjngpkldifjlaa

/- The functions of the program: which hand back new slices, which write what they are handed, what is told. -/
namespace Go.Proofs.Ytnjngpkldifjlaa
open Go Go.Sk
def ownB (f : FuncId) : Bool := match f with | 16 => true | 31 => true | 34 => true | _ => false
def refB (f : FuncId) : RefMode := match f with
  | 41 => .keep | 45 => .spent | 65 => .keep | 82 => .keep | 83 => .keep | 90 => .keep | 92 => .keep | 32 => .keep
  | 67 => .keep | 68 => .keep | 69 => .keep | 70 => .keep | 84 => .keep | 75 => .keep | _ => .pure
def flatB (f : FuncId) : Bool := match f with | 83 => false | 50 => false | 55 => false | 27 => false | 28 => false | _ => true
def primB (f : FuncId) (args : List V) (mem : List Sk.Obj) (ρ : RD) : Option ρ.El := match f with
  | 31 => clonePrim cBatch 48 args mem ρ
  | 34 => clonePrim (.int .i64) 8 args mem ρ
  | 75 => selfPrim 63 args mem ρ
  | 45 => textPrim 63 args mem ρ
  | _ => none
def cfg0 : Cfg := { own := ownB, ref := refB, flat := flatB, self := fun t => t == 63 }
def cfg : Cfg := { own := ownB, ref := refB, flat := flatB, prim := primB, self := fun t => t == 63 }
end Go.Proofs.Ytnjngpkldifjlaa

/- The functions, as limits of the evaluator: printed by a program. -/
set_option linter.unusedVariables false
namespace Go.Proofs.Ytnjngpkldifjlaa
open Go Go.Sk

/-- skirmish/skirmishlaw46.InputValid -/
noncomputable def law46_InputValid.f (a : BatchT) (b : BatchT) : Option Bool := callX Try.prog cfg 3 [(.agg (enc cBatch a)), (.agg (enc cBatch b))] [] ⟨[.one (.ty .bool)], 0⟩
/-- skirmish/skirmishlaw46.InputMergesAll -/
noncomputable def law46_InputMergesAll.f (l : (List BatchT)) : Option Bool := callX Try.prog cfg 4 [(.one (.slc cBatch l))] [] ⟨[.one (.ty .bool)], 0⟩
/-- skirmish/skirmishlaw46.InputMerges -/
noncomputable def law46_InputMerges.f (l : (List BatchT)) : Option Bool := callX Try.prog cfg 5 [(.one (.slc cBatch l))] [] ⟨[.one (.ty .bool)], 0⟩
/-- skirmish/skirmishlaw46.InputDecodes -/
noncomputable def law46_InputDecodes.f (b : BatchT) (s : ByteArray) (at' : Int) : Option Bool := callX Try.prog cfg 6 [(.agg (enc cBatch b)), (.one (.str s)), (.one (.int .i64 at'))] [] ⟨[.one (.ty .bool)], 0⟩
/-- skirmish/skirmishlaw46.InputRoundTrip -/
noncomputable def law46_InputRoundTrip.f (b : BatchT) (before : ByteArray) (behind : ByteArray) : Option Bool := callX Try.prog cfg 7 [(.agg (enc cBatch b)), (.one (.str before)), (.one (.str behind))] [] ⟨[.one (.ty .bool)], 0⟩
/-- skirmish/skirmishlaw46.small -/
noncomputable def law46_small.f (b : BatchT) : Option Bool := callX Try.prog cfg 8 [(.agg (enc cBatch b))] [] ⟨[.one (.ty .bool)], 0⟩
/-- skirmish/skirmishlaw46.alive -/
noncomputable def law46_alive.f  : Option Bool := callX Try.prog cfg 9 [] [] ⟨[.one (.ty .bool)], 0⟩
/-- skirmish/input.Valid -/
noncomputable def input_Valid.f (b : BatchT) : Option Bool := callX Try.prog cfg 10 [(.agg (enc cBatch b))] [] ⟨[.one (.ty .bool)], 0⟩
/-- skirmish/skirmishref46.Valid -/
noncomputable def ref46_Valid.f (b : BatchT) : Option Bool := callX Try.prog cfg 11 [(.agg (enc cBatch b))] [] ⟨[.one (.ty .bool)], 0⟩
/-- skirmish/input.Same -/
noncomputable def input_Same.f (a : BatchT) (b : BatchT) : Option Bool := callX Try.prog cfg 12 [(.agg (enc cBatch a)), (.agg (enc cBatch b))] [] ⟨[.one (.ty .bool)], 0⟩
/-- skirmish/skirmishref46.Same -/
noncomputable def ref46_Same.f (a : BatchT) (b : BatchT) : Option Bool := callX Try.prog cfg 13 [(.agg (enc cBatch a)), (.agg (enc cBatch b))] [] ⟨[.one (.ty .bool)], 0⟩
/-- skirmish/skirmishlaw46.few -/
noncomputable def law46_few.f (l : (List BatchT)) : Option Bool := callX Try.prog cfg 14 [(.one (.slc cBatch l))] [] ⟨[.one (.ty .bool)], 0⟩
/-- skirmish/input.Merge -/
noncomputable def input_Merge.f (l : (List BatchT)) : Option (List CommandT) := callX Try.prog cfg 16 [(.one (.slc cBatch l))] [] ⟨[.one (.own cCommand)], 0⟩
/-- skirmish/skirmishref46.Merge -/
noncomputable def ref46_Merge.f (l : (List BatchT)) : Option (List CommandT) := callX Try.prog cfg 17 [(.one (.slc cBatch l))] [] ⟨[.one (.ty (.slice cCommand))], 0⟩
/-- skirmish/skirmishref46.SameCommands -/
noncomputable def ref46_SameCommands.f (a : (List CommandT)) (b : (List CommandT)) : Option Bool := callX Try.prog cfg 15 [(.one (.slc cCommand a)), (.one (.slc cCommand b))] [] ⟨[.one (.ty .bool)], 0⟩
noncomputable def law46_InputMerges.j0 (l : (List BatchT)) (n : Int) (player : Int) (o0 : (List CommandT)) : Option Bool := lim Try.prog cfg 5 ⟨[.one (.ty .bool)], 0⟩ [lpIn Try.prog 5 [1, 1, 1, 1, 0, 1, 0, 0], .blk 0, cdIn Try.prog 5 [1, 1, 1, 1, 1]] ⟨mkE 127 [(0, (.one (.slc cBatch l))), (3, (.one (.osl 0))), (4, (.one (.int .i64 n))), (5, (.one (.int .i64 player)))], [(.row cCommand o0)]⟩
/-- skirmish/input.Decode -/
noncomputable def input_Decode.f (s : ByteArray) (at' : Int) : Option (BatchT × VecT) := callX Try.prog cfg 20 [(.one (.str s)), (.one (.int .i64 at'))] [] ⟨[.agg (.ty cBatch), .one (.ty (.int .i64)), .one (.ty (.int .i64))], 0⟩
/-- skirmish/skirmishref46.Decode -/
noncomputable def ref46_Decode.f (s : ByteArray) (at' : Int) : Option (BatchT × VecT) := callX Try.prog cfg 21 [(.one (.str s)), (.one (.int .i64 at'))] [] ⟨[.agg (.ty cBatch), .one (.ty (.int .i64)), .one (.ty (.int .i64))], 0⟩
/-- skirmish/input.Encode -/
noncomputable def input_Encode.f (b : BatchT) : Option ByteArray := callX Try.prog cfg 22 [(.agg (enc cBatch b))] [] ⟨[.one (.ty .str)], 0⟩
/-- skirmish/skirmishref46.Encode -/
noncomputable def ref46_Encode.f (b : BatchT) : Option ByteArray := callX Try.prog cfg 23 [(.agg (enc cBatch b))] [] ⟨[.one (.ty .str)], 0⟩
noncomputable def law46_small.j0 (t6 : Int) (t7 : Int) (o0 : BatchT) : Option Bool := lim Try.prog cfg 8 ⟨[.one (.ty .bool)], 0⟩ [lpIn Try.prog 8 [1, 0, 1, 0, 0], .blk 0, cdIn Try.prog 8 [1, 1]] ⟨mkE 33 [(1, (.one (.ptr 0 0))), (6, (.one (.int .i64 t6))), (7, (.one (.int .i64 t7)))], [(.cells (enc cBatch o0))]⟩
/-- skirmish/skirmishlaw46.pause -/
noncomputable def law46_pause.f (player : Int) : Option CommandT := callX Try.prog cfg 24 [(.one (.int .i64 player))] [] ⟨[.agg (.ty cCommand)], 0⟩
/-- slices.ContainsFunc[[]skirmish/api.Command,skirmish/api.Command] -/
noncomputable def slices_ContainsFunc.f (s : (List CommandT)) (f : BatchT) : Option Bool := callX Try.prog cfg 25 [(.one (.slc cCommand s)), (.one (.fn 26 [(.rptr (enc cBatch f))]))] [] ⟨[.one (.ty .bool)], 0⟩
noncomputable def ref46_Valid.j0 (i : Int) (o0 : BatchT) : Option Bool := lim Try.prog cfg 11 ⟨[.one (.ty .bool)], 0⟩ [lpIn Try.prog 11 [1, 1, 0, 1, 0, 0], .blk 0, cdIn Try.prog 11 [1, 1, 1]] ⟨mkE 63 [(1, (.one (.ptr 0 0))), (3, (.one (.int .i64 i)))], [(.cells (enc cBatch o0))]⟩
/-- slices.EqualFunc[[]skirmish/api.Command,[]skirmish/api.Command,skirmish/api.Command,skirmish/api.Command] -/
noncomputable def slices_EqualFunc.f (s1 : (List CommandT)) (s2 : (List CommandT)) : Option Bool := callX Try.prog cfg 29 [(.one (.slc cCommand s1)), (.one (.slc cCommand s2)), (.one (.fn 30 []))] [] ⟨[.one (.ty .bool)], 0⟩
noncomputable def law46_few.j0 (l : (List BatchT)) (t5 : Int) (t6 : Int) : Option Bool := lim Try.prog cfg 14 ⟨[.one (.ty .bool)], 0⟩ [lpIn Try.prog 14 [1, 0, 1, 0, 0], .blk 0, cdIn Try.prog 14 [1, 1]] ⟨mkE 19 [(0, (.one (.slc cBatch l))), (5, (.one (.int .i64 t5))), (6, (.one (.int .i64 t6)))], []⟩
/-- slices.Clone[[]skirmish/api.Batch,skirmish/api.Batch] -/
noncomputable def slices_Clone.f (s : (List BatchT)) : Option (List BatchT) := callX Try.prog cfg 31 [(.one (.slc cBatch s))] [] ⟨[.one (.own cBatch)], 0⟩
/-- slices.SortStableFunc[[]skirmish/api.Batch,skirmish/api.Batch] -/
noncomputable def slices_SortStableFunc.f (o : (List BatchT)) : Option (List BatchT) := callX Try.prog cfg 32 [(.one (.osl 1)), (.one (.fn 33 []))] [(.ghost [(.osl 1)]), (.row cBatch o)] ⟨[.one (.own cBatch)], 1⟩
noncomputable def input_Merge.j0 (t14 : Int) (t15 : Int) (o0 : (List CommandT)) (o1 : (List BatchT)) : Option (List CommandT) := lim Try.prog cfg 16 ⟨[.one (.own cCommand)], 0⟩ [lpIn Try.prog 16 [1, 1, 1, 1, 0, 1, 0, 0], .blk 0, cdIn Try.prog 16 [1, 1, 1, 1, 1]] ⟨mkE 37 [(4, (.one (.osl 0))), (13, (.one (.osl 1))), (14, (.one (.int .i64 t14))), (15, (.one (.int .i64 t15)))], [(.row cCommand o0), (.row cBatch o1)]⟩
noncomputable def ref46_Merge.j0 (l : (List BatchT)) (i : Int) (o0 : (List BatchT)) : Option (List CommandT) := lim Try.prog cfg 17 ⟨[.one (.ty (.slice cCommand))], 0⟩ [lpIn Try.prog 17 [1, 1, 0, 1, 0, 0], .blk 0, cdIn Try.prog 17 [1, 1, 1]] ⟨mkE 66 [(0, (.one (.slc cBatch l))), (3, (.one (.osl 0))), (4, (.one (.int .i64 i)))], [(.row cBatch o0)]⟩
noncomputable def ref46_SameCommands.j0 (a : (List CommandT)) (b : (List CommandT)) (i : Int) : Option Bool := lim Try.prog cfg 15 ⟨[.one (.ty .bool)], 0⟩ [lpIn Try.prog 15 [1, 1, 0, 1, 0, 0], .blk 0, cdIn Try.prog 15 [1, 1, 1]] ⟨mkE 27 [(0, (.one (.slc cCommand a))), (1, (.one (.slc cCommand b))), (5, (.one (.int .i64 i)))], []⟩
noncomputable def law46_InputMerges.j1 (l : (List BatchT)) (n : Int) (player : Int) (t24 : Int) (t25 : Int) (o0 : (List CommandT)) (o1 : (List BatchT)) : Option Bool := lim Try.prog cfg 5 ⟨[.one (.ty .bool)], 0⟩ [lpIn Try.prog 5 [1, 1, 1, 1, 0, 1, 0, 0, 1, 0, 0, 1, 0, 1, 0, 0], .blk 2, cdIn Try.prog 5 [1, 1, 1, 1, 0, 1, 0, 0, 1, 0, 0, 1, 1], .blk 1, cdIn Try.prog 5 [1, 1, 1, 1, 0, 1, 0, 0, 1, 1], lpIn Try.prog 5 [1, 1, 1, 1, 0, 1, 0, 0], .blk 0, cdIn Try.prog 5 [1, 1, 1, 1, 1]] ⟨mkE 127 [(0, (.one (.slc cBatch l))), (3, (.one (.osl 0))), (4, (.one (.int .i64 n))), (5, (.one (.int .i64 player))), (6, (.one (.osl 1))), (24, (.one (.int .i64 t24))), (25, (.one (.int .i64 t25)))], [(.row cCommand o0), (.row cBatch o1)]⟩
/-- skirmish/skirmishlaw46.inside -/
noncomputable def law46_inside.f (l : (List BatchT)) : Option Bool := callX Try.prog cfg 18 [(.one (.slc cBatch l))] [] ⟨[.one (.ty .bool)], 0⟩
noncomputable def law46_InputMerges.j2 (l : (List BatchT)) (player : Int) (o0 : (List CommandT)) (o1 : (List BatchT)) : Option Bool := lim Try.prog cfg 5 ⟨[.one (.ty .bool)], 0⟩ [lpIn Try.prog 5 [1, 1, 1, 1, 1, 1, 1, 0, 1, 0, 0], .blk 8, cdIn Try.prog 5 [1, 1, 1, 1, 1, 1, 1, 1]] ⟨mkE 127 [(0, (.one (.slc cBatch l))), (3, (.one (.osl 0))), (10, (.one (.osl 1))), (11, (.one (.int .i64 player)))], [(.row cCommand o0), (.row cBatch o1)]⟩
noncomputable def input_Decode.j0 (s : ByteArray) (at' : Int) (t22 : Int) (o0 : Int) (o01 : Int) (o02 : Int) (o1 : (List CommandT)) (o2 : Int) (o21 : Int) (o22 : Int) (o3 : (List CommandT)) : Option (BatchT × VecT) := lim Try.prog cfg 20 ⟨[.agg (.ty cBatch), .one (.ty (.int .i64)), .one (.ty (.int .i64))], 0⟩ [lpIn Try.prog 20 [1, 1, 0, 1, 0, 0], .blk 0, cdIn Try.prog 20 [1, 1, 1]] ⟨mkE 80 [(0, (.one (.str s))), (1, (.one (.int .i64 at'))), (4, (.one (.ptr 0 0))), (7, (.one (.ptr 2 0))), (21, (.agg [(.ptr 2 0), (.ptr 2 1), (.ptr 2 2)])), (22, (.one (.int .i64 t22)))], [(.cells [(.int .i64 o0), (.int .i64 o01), (.int .i64 o02), (.osl 1)]), (.row cCommand o1), (.cells [(.int .i64 o2), (.int .i64 o21), (.int .i64 o22), (.osl 3)]), (.row cCommand o3)]⟩
/-- skirmish/skirmishref04.TakeInt -/
noncomputable def ref04_TakeInt.f (s : ByteArray) (at' : Int) : Option (Int × VecT) := callX Try.prog cfg 38 [(.one (.str s)), (.one (.int .i64 at'))] [] ⟨[.one (.ty (.int .i64)), .one (.ty (.int .i64)), .one (.ty (.int .i64))], 0⟩
/-- skirmish/skirmishref04.TakeCount -/
noncomputable def ref04_TakeCount.f (s : ByteArray) (at' : Int) (most : Int) : Option (Int × VecT) := callX Try.prog cfg 39 [(.one (.str s)), (.one (.int .i64 at')), (.one (.int .i64 most))] [] ⟨[.one (.ty (.int .i64)), .one (.ty (.int .i64)), .one (.ty (.int .i64))], 0⟩
noncomputable def ref46_Decode.j0 (s : ByteArray) (n : Int) (next' : Int) (i : Int) (o0 : Int) (o01 : Int) (o02 : Int) (o1 : (List CommandT)) (o2 : Int) (o21 : Int) (o22 : Int) (o3 : (List CommandT)) : Option (BatchT × VecT) := lim Try.prog cfg 21 ⟨[.agg (.ty cBatch), .one (.ty (.int .i64)), .one (.ty (.int .i64))], 0⟩ [lpIn Try.prog 21 [1, 1, 1, 1, 1, 1, 1, 1, 1, 1, 0, 1, 0, 0], .blk 0, cdIn Try.prog 21 [1, 1, 1, 1, 1, 1, 1, 1, 1, 1, 1]] ⟨mkE 101 [(0, (.one (.str s))), (4, (.one (.ptr 0 0))), (16, (.one (.int .i64 n))), (17, (.one (.int .i64 next'))), (19, (.one (.ptr 2 0))), (20, (.one (.int .i64 i)))], [(.cells [(.int .i64 o0), (.int .i64 o01), (.int .i64 o02), (.osl 1)]), (.row cCommand o1), (.cells [(.int .i64 o2), (.int .i64 o21), (.int .i64 o22), (.osl 3)]), (.row cCommand o3)]⟩
/-- skirmish/wire.Int -/
noncomputable def wire_Int.f (n : Int) : Option ByteArray := callX Try.prog cfg 42 [(.one (.int .i64 n))] [] ⟨[.one (.ty .str)], 0⟩
/-- skirmish/wire.Uint -/
noncomputable def wire_Uint.f (n : Int) : Option ByteArray := callX Try.prog cfg 43 [(.one (.int .u64 n))] [] ⟨[.one (.ty .str)], 0⟩
/-- (*strings.Builder).WriteString -/
noncomputable def __strings_Builder__WriteString.f (s : ByteArray) : Option (Int × (Unit × (Unit × (List Int)))) := callX Try.prog cfg 41 [(.one (.ptr 1 0)), (.one (.str s))] [(.ghost [(.ptr 1 0)]), (.cells [(.slf 63), (.nils (.int .u8))])] ⟨[.one (.ty (.int .i64)), .one .nothing, .agg (.cat (.keep (.slf 63)) (.own (.int .u8)))], 1⟩
noncomputable def input_Encode.j0 (t25 : (List CommandT)) (t26 : Int) (t27 : Int) (o1 : (List Int)) : Option ByteArray := lim Try.prog cfg 22 ⟨[.one (.ty .str)], 0⟩ [lpIn Try.prog 22 [1, 1, 1, 0, 1, 0, 0], .blk 0, cdIn Try.prog 22 [1, 1, 1, 1]] ⟨mkE 36 [(3, (.one (.ptr 0 0))), (25, (.one (.slc cCommand t25))), (26, (.one (.int .i64 t26))), (27, (.one (.int .i64 t27)))], [(.cells [(.slf 63), (.osl 1)]), (.row (.int .u8) o1)]⟩
/-- skirmish/skirmishref04.Int -/
noncomputable def ref04_Int.f (n : Int) : Option ByteArray := callX Try.prog cfg 46 [(.one (.int .i64 n))] [] ⟨[.one (.ty .str)], 0⟩
/-- skirmish/skirmishref04.Uint -/
noncomputable def ref04_Uint.f (n : Int) : Option ByteArray := callX Try.prog cfg 47 [(.one (.int .u64 n))] [] ⟨[.one (.ty .str)], 0⟩
noncomputable def ref46_Encode.j0 (s : ByteArray) (i : Int) (o0 : BatchT) : Option ByteArray := lim Try.prog cfg 23 ⟨[.one (.ty .str)], 0⟩ [lpIn Try.prog 23 [1, 1, 0, 1, 0, 0], .blk 0, cdIn Try.prog 23 [1, 1, 1]] ⟨mkE 38 [(1, (.one (.ptr 0 0))), (3, (.one (.str s))), (4, (.one (.int .i64 i)))], [(.cells (enc cBatch o0))]⟩
/-- slices.IndexFunc[[]skirmish/api.Command,skirmish/api.Command] -/
noncomputable def slices_IndexFunc.f (s : (List CommandT)) (f : BatchT) : Option Int := callX Try.prog cfg 49 [(.one (.slc cCommand s)), (.one (.fn 26 [(.rptr (enc cBatch f))]))] [] ⟨[.one (.ty (.int .i64))], 0⟩
/-- skirmish/skirmishref34.Valid -/
noncomputable def ref34_Valid.f (c : CommandT) : Option Int := callX Try.prog cfg 28 [(.agg (enc cCommand c))] [] ⟨[.one (.ty (.int .i64))], 0⟩
noncomputable def slices_EqualFunc.j0 (s2 : (List CommandT)) (t15 : (List CommandT)) (t16 : Int) (t17 : Int) : Option Bool := lim Try.prog cfg 29 ⟨[.one (.ty .bool)], 0⟩ [lpIn Try.prog 29 [1, 1, 0, 1, 0, 0], .blk 0, cdIn Try.prog 29 [1, 1, 1]] ⟨mkE 32 [(1, (.one (.slc cCommand s2))), (2, (.one (.fn 30 []))), (15, (.one (.slc cCommand t15))), (16, (.one (.int .i64 t16))), (17, (.one (.int .i64 t17)))], []⟩
/-- slices.stableCmpFunc[skirmish/api.Batch] -/
noncomputable def slices_stableCmpFunc.f (n : Int) (o : (List BatchT)) : Option (List BatchT) := callX Try.prog cfg 65 [(.one (.osl 1)), (.one (.int .i64 n)), (.one (.fn 33 []))] [(.ghost [(.osl 1)]), (.row cBatch o)] ⟨[.one (.own cBatch)], 1⟩
noncomputable def input_Merge.j1 (t14 : Int) (t15 : Int) (t20 : (List CommandT)) (t21 : Int) (t22 : Int) (o0 : (List CommandT)) (o1 : (List BatchT)) : Option (List CommandT) := lim Try.prog cfg 16 ⟨[.one (.own cCommand)], 0⟩ [lpIn Try.prog 16 [1, 1, 1, 1, 0, 1, 0, 0, 1, 1, 0, 0, 1, 1, 0, 0], .blk 2, .blk 1, cdIn Try.prog 16 [1, 1, 1, 1, 0, 1, 0, 0, 1, 1, 1], lpIn Try.prog 16 [1, 1, 1, 1, 0, 1, 0, 0], .blk 0, cdIn Try.prog 16 [1, 1, 1, 1, 1]] ⟨mkE 37 [(4, (.one (.osl 0))), (13, (.one (.osl 1))), (14, (.one (.int .i64 t14))), (15, (.one (.int .i64 t15))), (20, (.one (.slc cCommand t20))), (21, (.one (.int .i64 t21))), (22, (.one (.int .i64 t22)))], [(.row cCommand o0), (.row cBatch o1)]⟩
noncomputable def ref46_Merge.j1 (l : (List BatchT)) (i : Int) (k : Int) (o0 : (List BatchT)) : Option (List CommandT) := lim Try.prog cfg 17 ⟨[.one (.ty (.slice cCommand))], 0⟩ [lpIn Try.prog 17 [1, 1, 0, 1, 0, 0, 1, 0, 0, 1, 0, 0, 0], .blk 2, cdIn Try.prog 17 [1, 1, 0, 1, 0, 0, 1, 0, 0, 1, 1], .blk 1, cdIn Try.prog 17 [1, 1, 0, 1, 0, 0, 1, 1], lpIn Try.prog 17 [1, 1, 0, 1, 0, 0], .blk 0, cdIn Try.prog 17 [1, 1, 1]] ⟨mkE 66 [(0, (.one (.slc cBatch l))), (3, (.one (.osl 0))), (4, (.one (.int .i64 i))), (5, (.one (.int .i64 k)))], [(.row cBatch o0)]⟩
noncomputable def ref46_Merge.j2 (i : Int) (o0 : (List BatchT)) (o1 : (List CommandT)) : Option (List CommandT) := lim Try.prog cfg 17 ⟨[.one (.ty (.slice cCommand))], 0⟩ [lpIn Try.prog 17 [1, 1, 1, 1, 0, 1, 0, 0], .blk 4, cdIn Try.prog 17 [1, 1, 1, 1, 1]] ⟨mkE 66 [(3, (.one (.osl 0))), (7, (.one (.osl 1))), (8, (.one (.int .i64 i)))], [(.row cBatch o0), (.row cCommand o1)]⟩
/-- skirmish/skirmishref34.Same -/
noncomputable def ref34_Same.f (a : CommandT) (b : CommandT) : Option Bool := callX Try.prog cfg 19 [(.agg (enc cCommand a)), (.agg (enc cCommand b))] [] ⟨[.one (.ty .bool)], 0⟩
noncomputable def law46_InputMerges.j3 (l : (List BatchT)) (n : Int) (player : Int) (t44 : Int) (t45 : Int) (o0 : (List CommandT)) (o1 : (List BatchT)) : Option Bool := lim Try.prog cfg 5 ⟨[.one (.ty .bool)], 0⟩ [lpIn Try.prog 5 [1, 1, 1, 1, 0, 1, 0, 0, 1, 0, 0, 1, 1, 1, 0, 0], .blk 4, .blk 1, cdIn Try.prog 5 [1, 1, 1, 1, 0, 1, 0, 0, 1, 1], lpIn Try.prog 5 [1, 1, 1, 1, 0, 1, 0, 0], .blk 0, cdIn Try.prog 5 [1, 1, 1, 1, 1]] ⟨mkE 127 [(0, (.one (.slc cBatch l))), (3, (.one (.osl 0))), (4, (.one (.int .i64 n))), (5, (.one (.int .i64 player))), (6, (.one (.osl 1))), (44, (.one (.int .i64 t44))), (45, (.one (.int .i64 t45)))], [(.row cCommand o0), (.row cBatch o1)]⟩
noncomputable def law46_inside.j0 (l : (List BatchT)) (t5 : Int) (t6 : Int) : Option Bool := lim Try.prog cfg 18 ⟨[.one (.ty .bool)], 0⟩ [lpIn Try.prog 18 [1, 0, 1, 0, 0], .blk 0, cdIn Try.prog 18 [1, 1]] ⟨mkE 24 [(0, (.one (.slc cBatch l))), (5, (.one (.int .i64 t5))), (6, (.one (.int .i64 t6)))], []⟩
noncomputable def law46_InputMerges.j4 (l : (List BatchT)) (player : Int) (t96 : Int) (t97 : Int) (o0 : (List CommandT)) (o1 : (List BatchT)) : Option Bool := lim Try.prog cfg 5 ⟨[.one (.ty .bool)], 0⟩ [lpIn Try.prog 5 [1, 1, 1, 1, 1, 1, 1, 0, 1, 0, 0, 1, 0, 0, 1, 0, 0], .blk 10, .blk 9, cdIn Try.prog 5 [1, 1, 1, 1, 1, 1, 1, 0, 1, 0, 0, 1, 1], lpIn Try.prog 5 [1, 1, 1, 1, 1, 1, 1, 0, 1, 0, 0], .blk 8, cdIn Try.prog 5 [1, 1, 1, 1, 1, 1, 1, 1]] ⟨mkE 127 [(0, (.one (.slc cBatch l))), (3, (.one (.osl 0))), (10, (.one (.osl 1))), (11, (.one (.int .i64 player))), (96, (.one (.int .i64 t96))), (97, (.one (.int .i64 t97)))], [(.row cCommand o0), (.row cBatch o1)]⟩
/-- skirmish/wire.TakeInt -/
noncomputable def wire_TakeInt.f (s : ByteArray) (at' : Int) : Option (Int × VecT) := callX Try.prog cfg 35 [(.one (.str s)), (.one (.int .i64 at'))] [] ⟨[.one (.ty (.int .i64)), .one (.ty (.int .i64)), .one (.ty (.int .i64))], 0⟩
/-- skirmish/wire.TakeCount -/
noncomputable def wire_TakeCount.f (s : ByteArray) (at' : Int) (most : Int) : Option (Int × VecT) := callX Try.prog cfg 36 [(.one (.str s)), (.one (.int .i64 at')), (.one (.int .i64 most))] [] ⟨[.one (.ty (.int .i64)), .one (.ty (.int .i64)), .one (.ty (.int .i64))], 0⟩
noncomputable def input_Decode.j1 (s : ByteArray) (at' : Int) (t52 : Int) (t53 : Int) (o0 : Int) (o01 : Int) (o02 : Int) (o1 : (List CommandT)) (o2 : Int) (o21 : Int) (o22 : Int) (o3 : (List CommandT)) : Option (BatchT × VecT) := lim Try.prog cfg 20 ⟨[.agg (.ty cBatch), .one (.ty (.int .i64)), .one (.ty (.int .i64))], 0⟩ [lpIn Try.prog 20 [1, 1, 1, 1, 1, 0, 1, 0, 0], .blk 2, cdIn Try.prog 20 [1, 1, 1, 1, 1, 1]] ⟨mkE 80 [(0, (.one (.str s))), (1, (.one (.int .i64 at'))), (4, (.one (.ptr 0 0))), (7, (.one (.ptr 2 0))), (52, (.one (.int .i64 t52))), (53, (.one (.int .i64 t53)))], [(.cells [(.int .i64 o0), (.int .i64 o01), (.int .i64 o02), (.osl 1)]), (.row cCommand o1), (.cells [(.int .i64 o2), (.int .i64 o21), (.int .i64 o22), (.osl 3)]), (.row cCommand o3)]⟩
/-- skirmish/skirmishref04.TakeUint -/
noncomputable def ref04_TakeUint.f (s : ByteArray) (at' : Int) : Option (Int × VecT) := callX Try.prog cfg 71 [(.one (.str s)), (.one (.int .i64 at'))] [] ⟨[.one (.ty (.int .u64)), .one (.ty (.int .i64)), .one (.ty (.int .i64))], 0⟩
/-- skirmish/skirmishref34.Decode -/
noncomputable def ref34_Decode.f (s : ByteArray) (at' : Int) : Option (CommandT × VecT) := callX Try.prog cfg 40 [(.one (.str s)), (.one (.int .i64 at'))] [] ⟨[.agg (.ty cCommand), .one (.ty (.int .i64)), .one (.ty (.int .i64))], 0⟩
noncomputable def wire_Uint.j0 (n : Int) (o0 : (List Int)) : Option ByteArray := lim Try.prog cfg 43 ⟨[.one (.ty .str)], 0⟩ [lpIn Try.prog 43 [1, 1, 0, 0, 0], .blk 0, cdIn Try.prog 43 [1, 1, 1]] ⟨mkE 26 [(0, (.one (.int .u64 n))), (3, (.one (.osl 0)))], [(.row (.int .u8) o0)]⟩
/-- (*strings.Builder).copyCheck -/
noncomputable def __strings_Builder__copyCheck.f  : Option (Unit × (List Int)) := callX Try.prog cfg 75 [(.one (.ptr 1 0))] [(.ghost [(.ptr 1 0)]), (.cells [(.slf 63), (.nils (.int .u8))])] ⟨[.agg (.cat (.keep (.slf 63)) (.own (.int .u8)))], 1⟩
/-- skirmish/command.Encode -/
noncomputable def command_Encode.f (c : CommandT) : Option ByteArray := callX Try.prog cfg 44 [(.agg (enc cCommand c))] [] ⟨[.one (.ty .str)], 0⟩
/-- (*strings.Builder).WriteString -/
noncomputable def __strings_Builder__WriteString_1.f (s : ByteArray) (o : (List Int)) : Option (Int × (Unit × (Unit × (List Int)))) := callX Try.prog cfg 41 [(.one (.ptr 1 0)), (.one (.str s))] [(.ghost [(.ptr 1 0)]), (.cells [(.slf 63), (.osl 2)]), (.row (.int .u8) o)] ⟨[.one (.ty (.int .i64)), .one .nothing, .agg (.cat (.keep (.slf 63)) (.own (.int .u8)))], 1⟩
/-- (*strings.Builder).String -/
noncomputable def __strings_Builder__String.f (o : (List Int)) : Option ByteArray := callX Try.prog cfg 45 [(.one (.ptr 1 0))] [(.ghost []), (.cells [(.slf 63), (.osl 2)]), (.row (.int .u8) o)] ⟨[.one (.ty .str)], 0⟩
noncomputable def ref04_Uint.j0 (n : Int) (s : ByteArray) : Option ByteArray := lim Try.prog cfg 47 ⟨[.one (.ty .str)], 0⟩ [lpIn Try.prog 47 [1, 1, 0, 0, 0], .blk 0, cdIn Try.prog 47 [1, 1, 1]] ⟨mkE 22 [(0, (.one (.int .u64 n))), (3, (.one (.str s)))], []⟩
/-- skirmish/skirmishref34.Encode -/
noncomputable def ref34_Encode.f (c : CommandT) : Option ByteArray := callX Try.prog cfg 48 [(.agg (enc cCommand c))] [] ⟨[.one (.ty .str)], 0⟩
noncomputable def slices_IndexFunc.j0 (s : (List CommandT)) (f : BatchT) (t7 : Int) (t8 : Int) : Option Int := lim Try.prog cfg 49 ⟨[.one (.ty (.int .i64))], 0⟩ [lpIn Try.prog 49 [1, 0, 1, 0, 0], .blk 0, cdIn Try.prog 49 [1, 1]] ⟨mkE 19 [(0, (.one (.slc cCommand s))), (1, (.one (.fn 26 [(.rptr (enc cBatch f))]))), (7, (.one (.int .i64 t7))), (8, (.one (.int .i64 t8)))], []⟩
noncomputable def ref34_Valid.j0 (t26 : Bool) (o0 : CommandT) : Option Int := lim Try.prog cfg 28 ⟨[.one (.ty (.int .i64))], 0⟩ [cdIn Try.prog 28 [1, 0, 1], cdIn Try.prog 28 [1, 1]] ⟨mkE 97 [(1, (.one (.ptr 0 0))), (26, (.one (.bool t26)))], [(.cells (enc cCommand o0))]⟩
/-- skirmish/skirmishref34.bare -/
noncomputable def ref34_bare.f (c : CommandT) : Option Bool := callX Try.prog cfg 55 [(.agg (enc cCommand c))] [] ⟨[.one (.ty .bool)], 0⟩
/-- skirmish/command.Same -/
noncomputable def command_Same.f (a : CommandT) (b : CommandT) : Option Bool := callX Try.prog cfg 30 [(.agg (enc cCommand a)), (.agg (enc cCommand b))] [] ⟨[.one (.ty .bool)], 0⟩
noncomputable def slices_stableCmpFunc.j0 (n : Int) (blockSize : Int) (a : Int) (b : Int) (o1 : (List BatchT)) : Option (List BatchT) := lim Try.prog cfg 65 ⟨[.one (.own cBatch)], 1⟩ [lpIn Try.prog 65 [1, 1, 0, 0, 0], .blk 0, cdIn Try.prog 65 [1, 1, 1]] ⟨mkE 63 [(0, (.one (.osl 1))), (1, (.one (.int .i64 n))), (2, (.one (.fn 33 []))), (6, (.one (.int .i64 blockSize))), (7, (.one (.int .i64 a))), (8, (.one (.int .i64 b)))], [(.ghost [(.osl 1)]), (.row cBatch o1)]⟩
/-- slices.Clone[[]int,int] -/
noncomputable def slices_Clone_1.f (s : (List Int)) : Option (List Int) := callX Try.prog cfg 34 [(.one (.slc (.int .i64) s))] [] ⟨[.one (.own (.int .i64))], 0⟩
noncomputable def ref34_Same.j0 (i : Int) (o0 : CommandT) (o1 : CommandT) : Option Bool := lim Try.prog cfg 19 ⟨[.one (.ty .bool)], 0⟩ [lpIn Try.prog 19 [1, 1, 0, 1, 0, 0], .blk 0, cdIn Try.prog 19 [1, 1, 1]] ⟨mkE 80 [(2, (.one (.ptr 0 0))), (3, (.one (.ptr 1 0))), (5, (.one (.int .i64 i)))], [(.cells (enc cCommand o0)), (.cells (enc cCommand o1))]⟩
noncomputable def law46_InputMerges.j5 (l : (List BatchT)) (n : Int) (player : Int) (i : Int) (t44 : Int) (t45 : Int) (t53 : Int) (t54 : Int) (o0 : (List CommandT)) (o1 : (List BatchT)) : Option Bool := lim Try.prog cfg 5 ⟨[.one (.ty .bool)], 0⟩ [lpIn Try.prog 5 [1, 1, 1, 1, 0, 1, 0, 0, 1, 0, 0, 1, 1, 1, 0, 0, 1, 1, 0, 0, 1, 1, 0, 0], .blk 6, .blk 5, cdIn Try.prog 5 [1, 1, 1, 1, 0, 1, 0, 0, 1, 0, 0, 1, 1, 1, 0, 0, 1, 1, 1], lpIn Try.prog 5 [1, 1, 1, 1, 0, 1, 0, 0, 1, 0, 0, 1, 1, 1, 0, 0], .blk 4, .blk 1, cdIn Try.prog 5 [1, 1, 1, 1, 0, 1, 0, 0, 1, 1], lpIn Try.prog 5 [1, 1, 1, 1, 0, 1, 0, 0], .blk 0, cdIn Try.prog 5 [1, 1, 1, 1, 1]] ⟨mkE 127 [(0, (.one (.slc cBatch l))), (3, (.one (.osl 0))), (4, (.one (.int .i64 n))), (5, (.one (.int .i64 player))), (6, (.one (.osl 1))), (8, (.one (.int .i64 i))), (44, (.one (.int .i64 t44))), (45, (.one (.int .i64 t45))), (53, (.one (.int .i64 t53))), (54, (.one (.int .i64 t54)))], [(.row cCommand o0), (.row cBatch o1)]⟩
/-- skirmish/wire.TakeUint -/
noncomputable def wire_TakeUint.f (s : ByteArray) (at' : Int) : Option (Int × VecT) := callX Try.prog cfg 66 [(.one (.str s)), (.one (.int .i64 at'))] [] ⟨[.one (.ty (.int .u64)), .one (.ty (.int .i64)), .one (.ty (.int .i64))], 0⟩
/-- skirmish/command.Decode -/
noncomputable def command_Decode.f (s : ByteArray) (at' : Int) : Option (CommandT × VecT) := callX Try.prog cfg 37 [(.one (.str s)), (.one (.int .i64 at'))] [] ⟨[.agg (.ty cCommand), .one (.ty (.int .i64)), .one (.ty (.int .i64))], 0⟩
noncomputable def ref04_TakeUint.j0 (s : ByteArray) (at' : Int) (n : Int) (k : Int) : Option (Int × VecT) := lim Try.prog cfg 71 ⟨[.one (.ty (.int .u64)), .one (.ty (.int .i64)), .one (.ty (.int .i64))], 0⟩ [lpIn Try.prog 71 [1, 1, 1, 0, 1, 0, 0], .blk 0, cdIn Try.prog 71 [1, 1, 1, 1]] ⟨mkE 61 [(0, (.one (.str s))), (1, (.one (.int .i64 at'))), (7, (.one (.int .u64 n))), (8, (.one (.int .i64 k)))], []⟩
/-- skirmish/skirmishref34.ints -/
noncomputable def ref34_ints.f (s : ByteArray) (at' : Int) (n : Int) : Option ((List Int) × VecT) := callX Try.prog cfg 72 [(.one (.str s)), (.one (.int .i64 at')), (.one (.int .i64 n))] [] ⟨[.one (.ty (.slice (.int .i64))), .one (.ty (.int .i64)), .one (.ty (.int .i64))], 0⟩
/-- skirmish/skirmishref04.TakeText -/
noncomputable def ref04_TakeText.f (s : ByteArray) (at' : Int) (most : Int) : Option (ByteArray × VecT) := callX Try.prog cfg 73 [(.one (.str s)), (.one (.int .i64 at')), (.one (.int .i64 most))] [] ⟨[.one (.ty .str), .one (.ty (.int .i64)), .one (.ty (.int .i64))], 0⟩
/-- skirmish/skirmishref04.TakeBool -/
noncomputable def ref04_TakeBool.f (s : ByteArray) (at' : Int) : Option (Bool × VecT) := callX Try.prog cfg 74 [(.one (.str s)), (.one (.int .i64 at'))] [] ⟨[.one (.ty .bool), .one (.ty (.int .i64)), .one (.ty (.int .i64))], 0⟩
noncomputable def command_Encode.j0 (t23 : (List Int)) (t24 : Int) (t25 : Int) (o0 : CommandT) (o2 : (List Int)) : Option ByteArray := lim Try.prog cfg 44 ⟨[.one (.ty .str)], 0⟩ [lpIn Try.prog 44 [1, 1, 1, 0, 1, 0, 0], .blk 0, cdIn Try.prog 44 [1, 1, 1, 1]] ⟨mkE 60 [(1, (.one (.ptr 0 0))), (3, (.one (.ptr 1 0))), (23, (.one (.slc (.int .i64) t23))), (24, (.one (.int .i64 t24))), (25, (.one (.int .i64 t25)))], [(.cells (enc cCommand o0)), (.cells [(.slf 63), (.osl 2)]), (.row (.int .u8) o2)]⟩
/-- (*strings.Builder).copyCheck -/
noncomputable def __strings_Builder__copyCheck_1.f (o : (List Int)) : Option (Unit × (List Int)) := callX Try.prog cfg 75 [(.one (.ptr 1 0))] [(.ghost [(.ptr 1 0)]), (.cells [(.slf 63), (.osl 2)]), (.row (.int .u8) o)] ⟨[.agg (.cat (.keep (.slf 63)) (.own (.int .u8)))], 1⟩
noncomputable def ref34_Encode.j0 (s : ByteArray) (i : Int) (o0 : CommandT) : Option ByteArray := lim Try.prog cfg 48 ⟨[.one (.ty .str)], 0⟩ [lpIn Try.prog 48 [1, 1, 0, 1, 0, 0], .blk 0, cdIn Try.prog 48 [1, 1, 1]] ⟨mkE 60 [(1, (.one (.ptr 0 0))), (3, (.one (.str s))), (4, (.one (.int .i64 i)))], [(.cells (enc cCommand o0))]⟩
/-- skirmish/input.Valid$1 -/
noncomputable def input_Valid_1.f (c : CommandT) (a1 : BatchT) : Option Bool := callX Try.prog cfg 26 [(.agg (enc cCommand c)), (.one (.rptr (enc cBatch a1)))] [] ⟨[.one (.ty .bool)], 0⟩
noncomputable def ref34_Valid.j1 (most : Int) (o0 : CommandT) : Option Int := lim Try.prog cfg 28 ⟨[.one (.ty (.int .i64))], 0⟩ [cdIn Try.prog 28 [1, 1, 1, 1, 1]] ⟨mkE 97 [(1, (.one (.ptr 0 0))), (3, (.one (.int .i64 most)))], [(.cells (enc cCommand o0))]⟩
/-- skirmish/skirmishref34.Ordering -/
noncomputable def ref34_Ordering.f (kind : Int) : Option Bool := callX Try.prog cfg 56 [(.one (.int .i64 kind))] [] ⟨[.one (.ty .bool)], 0⟩
noncomputable def ref34_bare.j0 (units : Bool) (o0 : CommandT) : Option Bool := lim Try.prog cfg 55 ⟨[.one (.ty .bool)], 0⟩ [cdIn Try.prog 55 [1, 1]] ⟨mkE 70 [(1, (.one (.ptr 0 0))), (3, (.one (.bool units)))], [(.cells (enc cCommand o0))]⟩
/-- skirmish/skirmishref34.single -/
noncomputable def ref34_single.f (kind : Int) : Option Bool := callX Try.prog cfg 57 [(.one (.int .i64 kind))] [] ⟨[.one (.ty .bool)], 0⟩
/-- slices.Equal[[]int,int] -/
noncomputable def slices_Equal.f (s1 : (List Int)) (s2 : (List Int)) : Option Bool := callX Try.prog cfg 64 [(.one (.slc (.int .i64) s1)), (.one (.slc (.int .i64) s2))] [] ⟨[.one (.ty .bool)], 0⟩
/-- slices.insertionSortCmpFunc[skirmish/api.Batch] -/
noncomputable def slices_insertionSortCmpFunc.f (a : Int) (b : Int) (o : (List BatchT)) : Option (List BatchT) := callX Try.prog cfg 82 [(.one (.osl 1)), (.one (.int .i64 a)), (.one (.int .i64 b)), (.one (.fn 33 []))] [(.ghost [(.osl 1)]), (.row cBatch o)] ⟨[.one (.own cBatch)], 1⟩
noncomputable def slices_stableCmpFunc.j1 (n : Int) (blockSize : Int) (o1 : (List BatchT)) : Option (List BatchT) := lim Try.prog cfg 65 ⟨[.one (.own cBatch)], 1⟩ [lpIn Try.prog 65 [1, 1, 1, 1, 0, 0], .blk 2] ⟨mkE 63 [(0, (.one (.osl 1))), (1, (.one (.int .i64 n))), (2, (.one (.fn 33 []))), (6, (.one (.int .i64 blockSize)))], [(.ghost [(.osl 1)]), (.row cBatch o1)]⟩
noncomputable def wire_TakeUint.j0 (s : ByteArray) (at' : Int) (n : Int) (t18 : Int) : Option (Int × VecT) := lim Try.prog cfg 66 ⟨[.one (.ty (.int .u64)), .one (.ty (.int .i64)), .one (.ty (.int .i64))], 0⟩ [lpIn Try.prog 66 [1, 1, 1, 0, 1, 0, 0], .blk 0, cdIn Try.prog 66 [1, 1, 1, 1]] ⟨mkE 60 [(0, (.one (.str s))), (1, (.one (.int .i64 at'))), (7, (.one (.int .u64 n))), (18, (.one (.int .i64 t18)))], []⟩
/-- (*skirmish/command.reader).number -/
noncomputable def command_reader__number.f (o : (ByteArray × VecT)) : Option (Int × (ByteArray × VecT)) := callX Try.prog cfg 67 [(.one (.ptr 1 0))] [(.ghost [(.ptr 1 0)]), (.cells (enc (.pair .str cVec) o))] ⟨[.one (.ty (.int .i64)), .agg (.cat (.ty .str) (.cat (.ty (.int .i64)) (.ty (.int .i64))))], 1⟩
/-- (*skirmish/command.reader).units -/
noncomputable def command_reader__units.f (o : (ByteArray × VecT)) : Option ((List Int) × (ByteArray × VecT)) := callX Try.prog cfg 68 [(.one (.ptr 1 0))] [(.ghost [(.ptr 1 0)]), (.cells (enc (.pair .str cVec) o))] ⟨[.one (.ty (.slice (.int .i64))), .agg (.cat (.ty .str) (.cat (.ty (.int .i64)) (.ty (.int .i64))))], 1⟩
/-- (*skirmish/command.reader).name -/
noncomputable def command_reader__name.f (o : (ByteArray × VecT)) : Option (ByteArray × (ByteArray × VecT)) := callX Try.prog cfg 69 [(.one (.ptr 1 0))] [(.ghost [(.ptr 1 0)]), (.cells (enc (.pair .str cVec) o))] ⟨[.one (.ty .str), .agg (.cat (.ty .str) (.cat (.ty (.int .i64)) (.ty (.int .i64))))], 1⟩
/-- (*skirmish/command.reader).queued -/
noncomputable def command_reader__queued.f (o : (ByteArray × VecT)) : Option (Bool × (ByteArray × VecT)) := callX Try.prog cfg 70 [(.one (.ptr 1 0))] [(.ghost [(.ptr 1 0)]), (.cells (enc (.pair .str cVec) o))] ⟨[.one (.ty .bool), .agg (.cat (.ty .str) (.cat (.ty (.int .i64)) (.ty (.int .i64))))], 1⟩
noncomputable def ref34_ints.j0 (s : ByteArray) (at' : Int) (n : Int) (i : Int) (o0 : (List Int)) : Option ((List Int) × VecT) := lim Try.prog cfg 72 ⟨[.one (.ty (.slice (.int .i64))), .one (.ty (.int .i64)), .one (.ty (.int .i64))], 0⟩ [lpIn Try.prog 72 [1, 1, 0, 1, 0, 0], .blk 0, cdIn Try.prog 72 [1, 1, 1]] ⟨mkE 36 [(0, (.one (.str s))), (1, (.one (.int .i64 at'))), (2, (.one (.int .i64 n))), (9, (.one (.osl 0))), (10, (.one (.int .i64 i)))], [(.row (.int .i64) o0)]⟩
noncomputable def command_Encode.j1 (t43 : (Int × (Int × VecT))) (t44 : Int) (o0 : CommandT) (o2 : (List Int)) : Option ByteArray := lim Try.prog cfg 44 ⟨[.one (.ty .str)], 0⟩ [lpIn Try.prog 44 [1, 1, 1, 1, 0, 1, 0, 0], .blk 2, cdIn Try.prog 44 [1, 1, 1, 1, 1]] ⟨mkE 60 [(1, (.one (.ptr 0 0))), (3, (.one (.ptr 1 0))), (43, (.agg (enc (.pair (.int .i64) (.pair (.int .i64) cVec)) t43))), (44, (.one (.int .i64 t44)))], [(.cells (enc cCommand o0)), (.cells [(.slf 63), (.osl 2)]), (.row (.int .u8) o2)]⟩
/-- skirmish/skirmishref04.Text -/
noncomputable def ref04_Text.f (s : ByteArray) : Option ByteArray := callX Try.prog cfg 78 [(.one (.str s))] [] ⟨[.one (.ty .str)], 0⟩
/-- skirmish/skirmishref04.Bool -/
noncomputable def ref04_Bool.f (b : Bool) : Option ByteArray := callX Try.prog cfg 79 [(.one (.bool b))] [] ⟨[.one (.ty .str)], 0⟩
/-- skirmish/command.Valid -/
noncomputable def command_Valid.f (c : CommandT) : Option Int := callX Try.prog cfg 27 [(.agg (enc cCommand c))] [] ⟨[.one (.ty (.int .i64))], 0⟩
/-- skirmish/skirmishref34.listed -/
noncomputable def ref34_listed.f (c : CommandT) : Option Bool := callX Try.prog cfg 58 [(.agg (enc cCommand c))] [] ⟨[.one (.ty .bool)], 0⟩
noncomputable def ref34_Valid.j2 (most : Int) (t34 : Bool) (o0 : CommandT) : Option Int := lim Try.prog cfg 28 ⟨[.one (.ty (.int .i64))], 0⟩ [cdIn Try.prog 28 [1, 1, 1, 1, 1, 0, 0, 1], .blk 0, cdIn Try.prog 28 [1, 1, 1, 1, 1, 1]] ⟨mkE 97 [(1, (.one (.ptr 0 0))), (3, (.one (.int .i64 most))), (34, (.one (.bool t34)))], [(.cells (enc cCommand o0))]⟩
/-- skirmish/skirmishref34.hasAt -/
noncomputable def ref34_hasAt.f (kind : Int) : Option Bool := callX Try.prog cfg 59 [(.one (.int .i64 kind))] [] ⟨[.one (.ty .bool)], 0⟩
/-- skirmish/skirmishref34.hasN -/
noncomputable def ref34_hasN.f (kind : Int) : Option Bool := callX Try.prog cfg 61 [(.one (.int .i64 kind))] [] ⟨[.one (.ty .bool)], 0⟩
/-- skirmish/skirmishref34.hasName -/
noncomputable def ref34_hasName.f (kind : Int) : Option Bool := callX Try.prog cfg 62 [(.one (.int .i64 kind))] [] ⟨[.one (.ty .bool)], 0⟩
noncomputable def ref34_bare.j1 (t2 : Bool) : Option Bool := lim Try.prog cfg 55 ⟨[.one (.ty .bool)], 0⟩ [cdIn Try.prog 55 [1, 1, 1]] ⟨mkE 70 [(2, (.one (.bool t2)))], []⟩
noncomputable def slices_Equal.j0 (s1 : (List Int)) (s2 : (List Int)) (t12 : Int) (t13 : Int) : Option Bool := lim Try.prog cfg 64 ⟨[.one (.ty .bool)], 0⟩ [lpIn Try.prog 64 [1, 1, 0, 1, 0, 0], .blk 0, cdIn Try.prog 64 [1, 1, 1]] ⟨mkE 26 [(0, (.one (.slc (.int .i64) s1))), (1, (.one (.slc (.int .i64) s2))), (12, (.one (.int .i64 t12))), (13, (.one (.int .i64 t13)))], []⟩
noncomputable def slices_insertionSortCmpFunc.j0 (a : Int) (b : Int) (i : Int) (o1 : (List BatchT)) : Option (List BatchT) := lim Try.prog cfg 82 ⟨[.one (.own cBatch)], 1⟩ [lpIn Try.prog 82 [1, 0, 0], .blk 0] ⟨mkE 53 [(0, (.one (.osl 1))), (1, (.one (.int .i64 a))), (2, (.one (.int .i64 b))), (3, (.one (.fn 33 []))), (8, (.one (.int .i64 i)))], [(.ghost [(.osl 1)]), (.row cBatch o1)]⟩
noncomputable def slices_stableCmpFunc.j2 (n : Int) (blockSize : Int) (a : Int) (b : Int) (o1 : (List BatchT)) : Option (List BatchT) := lim Try.prog cfg 65 ⟨[.one (.own cBatch)], 1⟩ [lpIn Try.prog 65 [1, 1, 1, 1, 0, 0, 1, 0, 1, 0, 0, 0], .blk 4, cdIn Try.prog 65 [1, 1, 1, 1, 0, 0, 1, 0, 1, 1], .blk 3, lpIn Try.prog 65 [1, 1, 1, 1, 0, 0], .blk 2] ⟨mkE 63 [(0, (.one (.osl 1))), (1, (.one (.int .i64 n))), (2, (.one (.fn 33 []))), (6, (.one (.int .i64 blockSize))), (7, (.one (.int .i64 a))), (8, (.one (.int .i64 b)))], [(.ghost [(.osl 1)]), (.row cBatch o1)]⟩
/-- (*skirmish/command.reader).next -/
noncomputable def command_reader__next.f (at' : Int) (e : Int) (o : (ByteArray × VecT)) : Option (ByteArray × VecT) := callX Try.prog cfg 84 [(.one (.ptr 1 0)), (.one (.int .i64 at')), (.one (.int .i64 e))] [(.ghost [(.ptr 1 0)]), (.cells (enc (.pair .str cVec) o))] ⟨[.agg (.cat (.ty .str) (.cat (.ty (.int .i64)) (.ty (.int .i64))))], 1⟩
noncomputable def command_reader__units.j0 (n : Int) (i : Int) (o1 : (ByteArray × VecT)) (o2 : (List Int)) : Option ((List Int) × (ByteArray × VecT)) := lim Try.prog cfg 68 ⟨[.one (.ty (.slice (.int .i64))), .agg (.cat (.ty .str) (.cat (.ty (.int .i64)) (.ty (.int .i64))))], 1⟩ [lpIn Try.prog 68 [1, 1, 1, 1, 1, 0, 1, 0, 0], .blk 0, cdIn Try.prog 68 [1, 1, 1, 1, 1, 1]] ⟨mkE 48 [(0, (.one (.ptr 1 0))), (3, (.one (.int .i64 n))), (6, (.one (.osl 2))), (7, (.one (.int .i64 i)))], [(.ghost [(.ptr 1 0)]), (.cells (enc (.pair .str cVec) o1)), (.row (.int .i64) o2)]⟩
/-- skirmish/wire.TakeText -/
noncomputable def wire_TakeText.f (s : ByteArray) (at' : Int) (most : Int) : Option (ByteArray × VecT) := callX Try.prog cfg 85 [(.one (.str s)), (.one (.int .i64 at')), (.one (.int .i64 most))] [] ⟨[.one (.ty .str), .one (.ty (.int .i64)), .one (.ty (.int .i64))], 0⟩
/-- skirmish/wire.TakeBool -/
noncomputable def wire_TakeBool.f (s : ByteArray) (at' : Int) : Option (Bool × VecT) := callX Try.prog cfg 86 [(.one (.str s)), (.one (.int .i64 at'))] [] ⟨[.one (.ty .bool), .one (.ty (.int .i64)), .one (.ty (.int .i64))], 0⟩
/-- skirmish/wire.Text -/
noncomputable def wire_Text.f (s : ByteArray) : Option ByteArray := callX Try.prog cfg 76 [(.one (.str s))] [] ⟨[.one (.ty .str)], 0⟩
/-- skirmish/wire.Bool -/
noncomputable def wire_Bool.f (b : Bool) : Option ByteArray := callX Try.prog cfg 77 [(.one (.bool b))] [] ⟨[.one (.ty .str)], 0⟩
noncomputable def command_Valid.j0 (t27 : Bool) (o0 : CommandT) : Option Int := lim Try.prog cfg 27 ⟨[.one (.ty (.int .i64))], 0⟩ [cdIn Try.prog 27 [1, 0, 1], cdIn Try.prog 27 [1, 1]] ⟨mkE 93 [(1, (.one (.ptr 0 0))), (27, (.one (.bool t27)))], [(.cells (enc cCommand o0))]⟩
/-- skirmish/command.unused -/
noncomputable def command_unused.f (c : CommandT) : Option Bool := callX Try.prog cfg 50 [(.agg (enc cCommand c))] [] ⟨[.one (.ty .bool)], 0⟩
noncomputable def ref34_listed.j0 (i : Int) (o0 : CommandT) : Option Bool := lim Try.prog cfg 58 ⟨[.one (.ty .bool)], 0⟩ [lpIn Try.prog 58 [1, 0, 1, 0, 0], .blk 0, cdIn Try.prog 58 [1, 1]] ⟨mkE 59 [(1, (.one (.ptr 0 0))), (3, (.one (.int .i64 i)))], [(.cells (enc cCommand o0))]⟩
/-- skirmish/skirmishref02.Valid -/
noncomputable def ref02_Valid.f (a : VecT) : Option Bool := callX Try.prog cfg 60 [(.agg (enc cVec a))] [] ⟨[.one (.ty .bool)], 0⟩
noncomputable def ref34_Valid.j3 (most : Int) (t48 : Bool) (o0 : CommandT) : Option Int := lim Try.prog cfg 28 ⟨[.one (.ty (.int .i64))], 0⟩ [cdIn Try.prog 28 [1, 1, 1, 1, 1, 0, 0, 1, 1, 1], .blk 0, cdIn Try.prog 28 [1, 1, 1, 1, 1, 1]] ⟨mkE 97 [(1, (.one (.ptr 0 0))), (3, (.one (.int .i64 most))), (48, (.one (.bool t48)))], [(.cells (enc cCommand o0))]⟩
noncomputable def slices_insertionSortCmpFunc.j1 (a : Int) (b : Int) (i : Int) (j : Int) (o1 : (List BatchT)) : Option (List BatchT) := lim Try.prog cfg 82 ⟨[.one (.own cBatch)], 1⟩ [lpIn Try.prog 82 [1, 0, 0, 1, 0, 0, 1, 0, 0], .blk 2, .blk 1, cdIn Try.prog 82 [1, 0, 0, 1, 1], lpIn Try.prog 82 [1, 0, 0], .blk 0] ⟨mkE 53 [(0, (.one (.osl 1))), (1, (.one (.int .i64 a))), (2, (.one (.int .i64 b))), (3, (.one (.fn 33 []))), (8, (.one (.int .i64 i))), (9, (.one (.int .i64 j)))], [(.ghost [(.osl 1)]), (.row cBatch o1)]⟩
/-- slices.symMergeCmpFunc[skirmish/api.Batch] -/
noncomputable def slices_symMergeCmpFunc.f (a : Int) (m : Int) (b : Int) (o : (List BatchT)) : Option (List BatchT) := callX Try.prog cfg 83 [(.one (.osl 1)), (.one (.int .i64 a)), (.one (.int .i64 m)), (.one (.int .i64 b)), (.one (.fn 33 []))] [(.ghost [(.osl 1)]), (.row cBatch o)] ⟨[.one (.own cBatch)], 1⟩
/-- skirmish/command.fields -/
noncomputable def command_fields.f (kind : Int) : Option Int := callX Try.prog cfg 51 [(.one (.int .i64 kind))] [] ⟨[.one (.ty (.int .i64))], 0⟩
noncomputable def command_Valid.j1 (f : Int) (most : Int) (o0 : CommandT) : Option Int := lim Try.prog cfg 27 ⟨[.one (.ty (.int .i64))], 0⟩ [cdIn Try.prog 27 [1, 1, 1, 1, 1, 1]] ⟨mkE 93 [(1, (.one (.ptr 0 0))), (3, (.one (.int .i64 f))), (4, (.one (.int .i64 most)))], [(.cells (enc cCommand o0))]⟩
noncomputable def command_unused.j0 (t2 : Bool) : Option Bool := lim Try.prog cfg 50 ⟨[.one (.ty .bool)], 0⟩ [cdIn Try.prog 50 [1, 1, 1]] ⟨mkE 67 [(2, (.one (.bool t2)))], []⟩
/-- skirmish/skirmishref02.NearVec -/
noncomputable def ref02_NearVec.f (a : VecT) : Option VecT := callX Try.prog cfg 81 [(.agg (enc cVec a))] [] ⟨[.agg (.ty cVec)], 0⟩
noncomputable def ref34_Valid.j4 (most : Int) (t58 : Bool) (o0 : CommandT) : Option Int := lim Try.prog cfg 28 ⟨[.one (.ty (.int .i64))], 0⟩ [cdIn Try.prog 28 [1, 1, 1, 1, 1, 0, 0, 1, 1, 1, 1, 1], .blk 0, cdIn Try.prog 28 [1, 1, 1, 1, 1, 1]] ⟨mkE 97 [(1, (.one (.ptr 0 0))), (3, (.one (.int .i64 most))), (58, (.one (.bool t58)))], [(.cells (enc cCommand o0))]⟩
/-- skirmish/input.Merge$1 -/
noncomputable def input_Merge_1.f (a : BatchT) (b : BatchT) : Option Int := callX Try.prog cfg 33 [(.agg (enc cBatch a)), (.agg (enc cBatch b))] [] ⟨[.one (.ty (.int .i64))], 0⟩
noncomputable def slices_symMergeCmpFunc.j0 (a : Int) (i : Int) (j : Int) (o1 : (List BatchT)) : Option (List BatchT) := lim Try.prog cfg 83 ⟨[.one (.own cBatch)], 1⟩ [lpIn Try.prog 83 [0, 1, 0, 1, 1, 0, 0, 0], .blk 0, cdIn Try.prog 83 [0, 1, 0, 1, 1, 1], cdIn Try.prog 83 [1]] ⟨mkE 220 [(0, (.one (.osl 1))), (1, (.one (.int .i64 a))), (4, (.one (.fn 33 []))), (10, (.one (.int .i64 i))), (11, (.one (.int .i64 j)))], [(.ghost [(.osl 1)]), (.row cBatch o1)]⟩
noncomputable def slices_symMergeCmpFunc.j1 (m : Int) (i : Int) (j : Int) (o1 : (List BatchT)) : Option (List BatchT) := lim Try.prog cfg 83 ⟨[.one (.own cBatch)], 1⟩ [lpIn Try.prog 83 [1, 0, 1, 0, 1, 1, 0, 0, 0], .blk 4, cdIn Try.prog 83 [1, 0, 1, 0, 1, 1, 1], cdIn Try.prog 83 [1, 1]] ⟨mkE 220 [(0, (.one (.osl 1))), (2, (.one (.int .i64 m))), (4, (.one (.fn 33 []))), (14, (.one (.int .i64 i))), (15, (.one (.int .i64 j)))], [(.ghost [(.osl 1)]), (.row cBatch o1)]⟩
noncomputable def slices_symMergeCmpFunc.j2 (a : Int) (m : Int) (b : Int) (mid : Int) (n : Int) (start : Int) (r : Int) (o1 : (List BatchT)) : Option (List BatchT) := lim Try.prog cfg 83 ⟨[.one (.own cBatch)], 1⟩ [cdIn Try.prog 83 [1, 1, 1, 1, 1, 1]] ⟨mkE 220 [(0, (.one (.osl 1))), (1, (.one (.int .i64 a))), (2, (.one (.int .i64 m))), (3, (.one (.int .i64 b))), (4, (.one (.fn 33 []))), (18, (.one (.int .i64 mid))), (19, (.one (.int .i64 n))), (20, (.one (.int .i64 start))), (21, (.one (.int .i64 r)))], [(.ghost [(.osl 1)]), (.row cBatch o1)]⟩
/-- skirmish/command.ids -/
noncomputable def command_ids.f (c : CommandT) : Option Bool := callX Try.prog cfg 52 [(.agg (enc cCommand c))] [] ⟨[.one (.ty .bool)], 0⟩
noncomputable def command_Valid.j2 (f : Int) (most : Int) (t38 : Bool) (o0 : CommandT) : Option Int := lim Try.prog cfg 27 ⟨[.one (.ty (.int .i64))], 0⟩ [cdIn Try.prog 27 [1, 1, 1, 1, 1, 1, 0, 0, 0, 1], cdIn Try.prog 27 [1, 1, 1, 1, 1, 1, 0, 0, 1], .blk 0, cdIn Try.prog 27 [1, 1, 1, 1, 1, 1, 1]] ⟨mkE 93 [(1, (.one (.ptr 0 0))), (3, (.one (.int .i64 f))), (4, (.one (.int .i64 most))), (38, (.one (.bool t38)))], [(.cells (enc cCommand o0))]⟩
/-- skirmish/skirmishref02.Near -/
noncomputable def ref02_Near.f (n : Int) : Option Int := callX Try.prog cfg 89 [(.one (.int .i64 n))] [] ⟨[.one (.ty (.int .i64))], 0⟩
noncomputable def ref34_Valid.j5 (t72 : Bool) (o0 : CommandT) : Option Int := lim Try.prog cfg 28 ⟨[.one (.ty (.int .i64))], 0⟩ [cdIn Try.prog 28 [1, 1, 1, 1, 1, 0, 0, 1, 1, 1, 1, 1, 1, 1], .blk 0, cdIn Try.prog 28 [1, 1, 1, 1, 1, 1]] ⟨mkE 97 [(1, (.one (.ptr 0 0))), (72, (.one (.bool t72)))], [(.cells (enc cCommand o0))]⟩
noncomputable def slices_symMergeCmpFunc.j3 (a : Int) (i : Int) (j : Int) (o1 : (List BatchT)) : Option (List BatchT) := lim Try.prog cfg 83 ⟨[.one (.own cBatch)], 1⟩ [.blk 1, lpIn Try.prog 83 [0, 1, 0, 1, 1, 0, 0, 0], .blk 0, cdIn Try.prog 83 [0, 1, 0, 1, 1, 1], cdIn Try.prog 83 [1]] ⟨mkE 220 [(0, (.one (.osl 1))), (1, (.one (.int .i64 a))), (4, (.one (.fn 33 []))), (10, (.one (.int .i64 i))), (11, (.one (.int .i64 j)))], [(.ghost [(.osl 1)]), (.row cBatch o1)]⟩
noncomputable def slices_symMergeCmpFunc.j4 (i : Int) (k : Int) (o1 : (List BatchT)) : Option (List BatchT) := lim Try.prog cfg 83 ⟨[.one (.own cBatch)], 1⟩ [lpIn Try.prog 83 [0, 1, 0, 1, 1, 1, 0, 1, 0, 0], .blk 2, cdIn Try.prog 83 [0, 1, 0, 1, 1, 1, 1], cdIn Try.prog 83 [1]] ⟨mkE 220 [(0, (.one (.osl 1))), (10, (.one (.int .i64 i))), (13, (.one (.int .i64 k)))], [(.ghost [(.osl 1)]), (.row cBatch o1)]⟩
noncomputable def slices_symMergeCmpFunc.j5 (m : Int) (i : Int) (j : Int) (o1 : (List BatchT)) : Option (List BatchT) := lim Try.prog cfg 83 ⟨[.one (.own cBatch)], 1⟩ [.blk 5, lpIn Try.prog 83 [1, 0, 1, 0, 1, 1, 0, 0, 0], .blk 4, cdIn Try.prog 83 [1, 0, 1, 0, 1, 1, 1], cdIn Try.prog 83 [1, 1]] ⟨mkE 220 [(0, (.one (.osl 1))), (2, (.one (.int .i64 m))), (4, (.one (.fn 33 []))), (14, (.one (.int .i64 i))), (15, (.one (.int .i64 j)))], [(.ghost [(.osl 1)]), (.row cBatch o1)]⟩
noncomputable def slices_symMergeCmpFunc.j6 (i : Int) (k : Int) (o1 : (List BatchT)) : Option (List BatchT) := lim Try.prog cfg 83 ⟨[.one (.own cBatch)], 1⟩ [lpIn Try.prog 83 [1, 0, 1, 0, 1, 1, 1, 0, 1, 0, 0], .blk 6, cdIn Try.prog 83 [0, 1, 0, 1, 1, 1, 1], cdIn Try.prog 83 [1, 1]] ⟨mkE 220 [(0, (.one (.osl 1))), (14, (.one (.int .i64 i))), (17, (.one (.int .i64 k)))], [(.ghost [(.osl 1)]), (.row cBatch o1)]⟩
noncomputable def slices_symMergeCmpFunc.j7 (a : Int) (m : Int) (b : Int) (mid : Int) (n : Int) (start : Int) (r : Int) (p : Int) (o1 : (List BatchT)) : Option (List BatchT) := lim Try.prog cfg 83 ⟨[.one (.own cBatch)], 1⟩ [lpIn Try.prog 83 [1, 1, 1, 1, 1, 1, 1, 0, 0, 0], .blk 8, cdIn Try.prog 83 [1, 1, 1, 1, 1, 1, 1, 1]] ⟨mkE 220 [(0, (.one (.osl 1))), (1, (.one (.int .i64 a))), (2, (.one (.int .i64 m))), (3, (.one (.int .i64 b))), (4, (.one (.fn 33 []))), (18, (.one (.int .i64 mid))), (19, (.one (.int .i64 n))), (20, (.one (.int .i64 start))), (21, (.one (.int .i64 r))), (22, (.one (.int .i64 p)))], [(.ghost [(.osl 1)]), (.row cBatch o1)]⟩
noncomputable def command_ids.j0 (t7 : (List Int)) (t8 : Int) (t9 : Int) (o0 : CommandT) : Option Bool := lim Try.prog cfg 52 ⟨[.one (.ty .bool)], 0⟩ [lpIn Try.prog 52 [1, 0, 1, 0, 0], .blk 0, cdIn Try.prog 52 [1, 1]] ⟨mkE 62 [(1, (.one (.ptr 0 0))), (7, (.one (.slc (.int .i64) t7))), (8, (.one (.int .i64 t8))), (9, (.one (.int .i64 t9)))], [(.cells (enc cCommand o0))]⟩
noncomputable def command_Valid.j3 (f : Int) (t38 : Bool) (o0 : CommandT) : Option Int := lim Try.prog cfg 27 ⟨[.one (.ty (.int .i64))], 0⟩ [cdIn Try.prog 27 [1, 1, 1, 1, 1, 1, 0, 0, 1], .blk 0, cdIn Try.prog 27 [1, 1, 1, 1, 1, 1, 1]] ⟨mkE 93 [(1, (.one (.ptr 0 0))), (3, (.one (.int .i64 f))), (38, (.one (.bool t38)))], [(.cells (enc cCommand o0))]⟩
/-- skirmish/vec.Valid -/
noncomputable def vec_Valid.f (a : VecT) : Option Bool := callX Try.prog cfg 53 [(.agg (enc cVec a))] [] ⟨[.one (.ty .bool)], 0⟩
noncomputable def command_Valid.j4 (f : Int) (most : Int) (t38 : Bool) (o0 : CommandT) : Option Int := lim Try.prog cfg 27 ⟨[.one (.ty (.int .i64))], 0⟩ [cdIn Try.prog 27 [1, 1, 1, 1, 1, 1, 0, 0, 0, 1, 1, 1], .jn, cdIn Try.prog 27 [1, 1, 1, 1, 1, 1, 0, 0, 1], .blk 0, cdIn Try.prog 27 [1, 1, 1, 1, 1, 1, 1]] ⟨mkE 93 [(1, (.one (.ptr 0 0))), (3, (.one (.int .i64 f))), (4, (.one (.int .i64 most))), (38, (.one (.bool t38)))], [(.cells (enc cCommand o0))]⟩
/-- skirmish/skirmishref09.Name -/
noncomputable def ref09_Name.f (s : ByteArray) : Option Bool := callX Try.prog cfg 63 [(.one (.str s))] [] ⟨[.one (.ty .bool)], 0⟩
noncomputable def ref34_Valid.j6 (t87 : Bool) : Option Int := lim Try.prog cfg 28 ⟨[.one (.ty (.int .i64))], 0⟩ [cdIn Try.prog 28 [1, 1, 1, 1, 1, 0, 0, 1, 1, 1, 1, 1, 1, 1, 1, 1], .blk 0, cdIn Try.prog 28 [1, 1, 1, 1, 1, 1]] ⟨mkE 97 [(87, (.one (.bool t87)))], []⟩
noncomputable def slices_symMergeCmpFunc.j8 (a : Int) (m : Int) (b : Int) (mid : Int) (n : Int) (start : Int) (r : Int) (p : Int) (o1 : (List BatchT)) : Option (List BatchT) := lim Try.prog cfg 83 ⟨[.one (.own cBatch)], 1⟩ [.blk 9, lpIn Try.prog 83 [1, 1, 1, 1, 1, 1, 1, 0, 0, 0], .blk 8, cdIn Try.prog 83 [1, 1, 1, 1, 1, 1, 1, 1]] ⟨mkE 220 [(0, (.one (.osl 1))), (1, (.one (.int .i64 a))), (2, (.one (.int .i64 m))), (3, (.one (.int .i64 b))), (4, (.one (.fn 33 []))), (18, (.one (.int .i64 mid))), (19, (.one (.int .i64 n))), (20, (.one (.int .i64 start))), (21, (.one (.int .i64 r))), (22, (.one (.int .i64 p)))], [(.ghost [(.osl 1)]), (.row cBatch o1)]⟩
noncomputable def slices_symMergeCmpFunc.j9 (a : Int) (m : Int) (b : Int) (mid : Int) (start : Int) (end' : Int) (t185 : Bool) (o1 : (List BatchT)) : Option (List BatchT) := lim Try.prog cfg 83 ⟨[.one (.own cBatch)], 1⟩ [cdIn Try.prog 83 [1, 1, 1, 1, 1, 1, 1, 1, 1, 0, 1], cdIn Try.prog 83 [1, 1, 1, 1, 1, 1, 1, 1, 1, 1]] ⟨mkE 220 [(0, (.one (.osl 1))), (1, (.one (.int .i64 a))), (2, (.one (.int .i64 m))), (3, (.one (.int .i64 b))), (4, (.one (.fn 33 []))), (18, (.one (.int .i64 mid))), (20, (.one (.int .i64 start))), (24, (.one (.int .i64 end'))), (185, (.one (.bool t185)))], [(.ghost [(.osl 1)]), (.row cBatch o1)]⟩
/-- skirmish/rules.Name -/
noncomputable def rules_Name.f (s : ByteArray) : Option Bool := callX Try.prog cfg 54 [(.one (.str s))] [] ⟨[.one (.ty .bool)], 0⟩
noncomputable def command_Valid.j5 (t83 : Bool) : Option Int := lim Try.prog cfg 27 ⟨[.one (.ty (.int .i64))], 0⟩ [cdIn Try.prog 27 [1, 1, 1, 1, 1, 1, 0, 0, 1, 1, 1], .blk 0, cdIn Try.prog 27 [1, 1, 1, 1, 1, 1, 1]] ⟨mkE 93 [(83, (.one (.bool t83)))], []⟩
/-- skirmish/vec.nearest -/
noncomputable def vec_nearest.f (a : VecT) : Option VecT := callX Try.prog cfg 80 [(.agg (enc cVec a))] [] ⟨[.agg (.ty cVec)], 0⟩
noncomputable def command_Valid.j6 (f : Int) (t38 : Bool) (o0 : CommandT) : Option Int := lim Try.prog cfg 27 ⟨[.one (.ty (.int .i64))], 0⟩ [.jn, cdIn Try.prog 27 [1, 1, 1, 1, 1, 1, 0, 0, 1], .blk 0, cdIn Try.prog 27 [1, 1, 1, 1, 1, 1, 1]] ⟨mkE 93 [(1, (.one (.ptr 0 0))), (3, (.one (.int .i64 f))), (38, (.one (.bool t38)))], [(.cells (enc cCommand o0))]⟩
noncomputable def command_Valid.j7 (f : Int) (most : Int) (t38 : Bool) (o0 : CommandT) : Option Int := lim Try.prog cfg 27 ⟨[.one (.ty (.int .i64))], 0⟩ [cdIn Try.prog 27 [1, 1, 1, 1, 1, 1, 0, 0, 0, 1, 1, 1, 1, 1], .jn, .jn, cdIn Try.prog 27 [1, 1, 1, 1, 1, 1, 0, 0, 1], .blk 0, cdIn Try.prog 27 [1, 1, 1, 1, 1, 1, 1]] ⟨mkE 93 [(1, (.one (.ptr 0 0))), (3, (.one (.int .i64 f))), (4, (.one (.int .i64 most))), (38, (.one (.bool t38)))], [(.cells (enc cCommand o0))]⟩
noncomputable def ref09_Name.j0 (s : ByteArray) (i : Int) : Option Bool := lim Try.prog cfg 63 ⟨[.one (.ty .bool)], 0⟩ [lpIn Try.prog 63 [1, 1, 0, 1, 0, 0], .blk 0, cdIn Try.prog 63 [1, 1, 1]] ⟨mkE 52 [(0, (.one (.str s))), (3, (.one (.int .i64 i)))], []⟩
/-- slices.rotateCmpFunc[skirmish/api.Batch] -/
noncomputable def slices_rotateCmpFunc.f (a : Int) (m : Int) (b : Int) (o : (List BatchT)) : Option (List BatchT) := callX Try.prog cfg 90 [(.one (.osl 1)), (.one (.int .i64 a)), (.one (.int .i64 m)), (.one (.int .i64 b)), (.one (.fn 33 []))] [(.ghost [(.osl 1)]), (.row cBatch o)] ⟨[.one (.own cBatch)], 1⟩
noncomputable def slices_symMergeCmpFunc.j10 (a : Int) (b : Int) (mid : Int) (start : Int) (end' : Int) (o1 : (List BatchT)) : Option (List BatchT) := lim Try.prog cfg 83 ⟨[.one (.own cBatch)], 1⟩ [cdIn Try.prog 83 [1, 1, 1, 1, 1, 1, 1, 1, 1, 1]] ⟨mkE 220 [(0, (.one (.osl 1))), (1, (.one (.int .i64 a))), (3, (.one (.int .i64 b))), (4, (.one (.fn 33 []))), (18, (.one (.int .i64 mid))), (20, (.one (.int .i64 start))), (24, (.one (.int .i64 end')))], [(.ghost [(.osl 1)]), (.row cBatch o1)]⟩
noncomputable def rules_Name.j0 (s : ByteArray) (t23 : Int) (t24 : Int) : Option Bool := lim Try.prog cfg 54 ⟨[.one (.ty .bool)], 0⟩ [lpIn Try.prog 54 [1, 1, 0, 1, 0, 0], .blk 0, cdIn Try.prog 54 [1, 1, 1]] ⟨mkE 49 [(0, (.one (.str s))), (23, (.one (.int .i64 t23))), (24, (.one (.int .i64 t24)))], []⟩
/-- skirmish/vec.near -/
noncomputable def vec_near.f (n : Int) : Option Int := callX Try.prog cfg 88 [(.one (.int .i64 n))] [] ⟨[.one (.ty (.int .i64))], 0⟩
noncomputable def command_Valid.j8 (f : Int) (t38 : Bool) (o0 : CommandT) : Option Int := lim Try.prog cfg 27 ⟨[.one (.ty (.int .i64))], 0⟩ [.jn, .jn, cdIn Try.prog 27 [1, 1, 1, 1, 1, 1, 0, 0, 1], .blk 0, cdIn Try.prog 27 [1, 1, 1, 1, 1, 1, 1]] ⟨mkE 93 [(1, (.one (.ptr 0 0))), (3, (.one (.int .i64 f))), (38, (.one (.bool t38)))], [(.cells (enc cCommand o0))]⟩
noncomputable def command_Valid.j9 (f : Int) (t38 : Bool) (o0 : CommandT) : Option Int := lim Try.prog cfg 27 ⟨[.one (.ty (.int .i64))], 0⟩ [.jn, .jn, .jn, cdIn Try.prog 27 [1, 1, 1, 1, 1, 1, 0, 0, 1], .blk 0, cdIn Try.prog 27 [1, 1, 1, 1, 1, 1, 1]] ⟨mkE 93 [(1, (.one (.ptr 0 0))), (3, (.one (.int .i64 f))), (38, (.one (.bool t38)))], [(.cells (enc cCommand o0))]⟩
noncomputable def slices_rotateCmpFunc.j0 (m : Int) (i : Int) (j : Int) (o1 : (List BatchT)) : Option (List BatchT) := lim Try.prog cfg 90 ⟨[.one (.own cBatch)], 1⟩ [lpIn Try.prog 90 [1, 1, 0, 0, 0], .blk 0, cdIn Try.prog 90 [1, 1, 1]] ⟨mkE 58 [(0, (.one (.osl 1))), (2, (.one (.int .i64 m))), (4, (.one (.fn 33 []))), (10, (.one (.int .i64 i))), (11, (.one (.int .i64 j)))], [(.ghost [(.osl 1)]), (.row cBatch o1)]⟩
noncomputable def slices_symMergeCmpFunc.j11 (a : Int) (b : Int) (mid : Int) (start : Int) (end' : Int) (t199 : Bool) (o1 : (List BatchT)) : Option (List BatchT) := lim Try.prog cfg 83 ⟨[.one (.own cBatch)], 1⟩ [cdIn Try.prog 83 [1, 1, 1, 1, 1, 1, 1, 1, 1, 1, 0, 1], cdIn Try.prog 83 [1, 1, 1, 1, 1, 1, 1, 1, 1, 1, 1]] ⟨mkE 220 [(0, (.one (.osl 1))), (1, (.one (.int .i64 a))), (3, (.one (.int .i64 b))), (4, (.one (.fn 33 []))), (18, (.one (.int .i64 mid))), (20, (.one (.int .i64 start))), (24, (.one (.int .i64 end'))), (199, (.one (.bool t199)))], [(.ghost [(.osl 1)]), (.row cBatch o1)]⟩
/-- skirmish/num.Clamp -/
noncomputable def num_Clamp.f (n : Int) (lo' : Int) (hi : Int) : Option Int := callX Try.prog cfg 91 [(.one (.int .i64 n)), (.one (.int .i64 lo')), (.one (.int .i64 hi))] [] ⟨[.one (.ty (.int .i64))], 0⟩
/-- slices.swapRangeCmpFunc[skirmish/api.Batch] -/
noncomputable def slices_swapRangeCmpFunc.f (a : Int) (b : Int) (n : Int) (o : (List BatchT)) : Option (List BatchT) := callX Try.prog cfg 92 [(.one (.osl 1)), (.one (.int .i64 a)), (.one (.int .i64 b)), (.one (.int .i64 n)), (.one (.fn 33 []))] [(.ghost [(.osl 1)]), (.row cBatch o)] ⟨[.one (.own cBatch)], 1⟩
noncomputable def slices_symMergeCmpFunc.j12 (b : Int) (mid : Int) (end' : Int) (o1 : (List BatchT)) : Option (List BatchT) := lim Try.prog cfg 83 ⟨[.one (.own cBatch)], 1⟩ [cdIn Try.prog 83 [1, 1, 1, 1, 1, 1, 1, 1, 1, 1, 1]] ⟨mkE 220 [(0, (.one (.osl 1))), (3, (.one (.int .i64 b))), (4, (.one (.fn 33 []))), (18, (.one (.int .i64 mid))), (24, (.one (.int .i64 end')))], [(.ghost [(.osl 1)]), (.row cBatch o1)]⟩
noncomputable def slices_swapRangeCmpFunc.j0 (a : Int) (b : Int) (n : Int) (i : Int) (o1 : (List BatchT)) : Option (List BatchT) := lim Try.prog cfg 92 ⟨[.one (.own cBatch)], 1⟩ [lpIn Try.prog 92 [1, 0, 0], .blk 0] ⟨mkE 38 [(0, (.one (.osl 1))), (1, (.one (.int .i64 a))), (2, (.one (.int .i64 b))), (3, (.one (.int .i64 n))), (10, (.one (.int .i64 i)))], [(.ghost [(.osl 1)]), (.row cBatch o1)]⟩
noncomputable def slices_symMergeCmpFunc.j13 (b : Int) (mid : Int) (end' : Int) (t213 : Bool) (o1 : (List BatchT)) : Option (List BatchT) := lim Try.prog cfg 83 ⟨[.one (.own cBatch)], 1⟩ [cdIn Try.prog 83 [1, 1, 1, 1, 1, 1, 1, 1, 1, 1, 1, 1]] ⟨mkE 220 [(0, (.one (.osl 1))), (3, (.one (.int .i64 b))), (4, (.one (.fn 33 []))), (18, (.one (.int .i64 mid))), (24, (.one (.int .i64 end'))), (213, (.one (.bool t213)))], [(.ghost [(.osl 1)]), (.row cBatch o1)]⟩
noncomputable def slices_symMergeCmpFunc.j14 (o1 : (List BatchT)) : Option (List BatchT) := lim Try.prog cfg 83 ⟨[.one (.own cBatch)], 1⟩ [] ⟨mkE 220 [], [(.ghost [(.osl 1)]), (.row cBatch o1)]⟩
end Go.Proofs.Ytnjngpkldifjlaa
