/- Short names of the program's struct types and of their codes: printed by a program. -/
import Derived.Test.YtpiejdjanhnbeaaGreatProg
import Derived.Test.YtpiejdjanhnbeaaGreatT1
import Derived.Test.YtpiejdjanhnbeaaGreatT4
namespace Go.Proofs.YtpiejdjanhnbeaaGreat
open Go Go.Sk
abbrev CommandT : Type := (Int × (Int × ((List Int) × ((Int × Int) × (Int × (Int × (ByteArray × Bool)))))))
abbrev cCommand : Ty := (.pair (.int .i64) (.pair (.int .i64) (.pair (.slice (.int .i64)) (.pair (.pair (.int .i64) (.int .i64)) (.pair (.int .i64) (.pair (.int .i64) (.pair .str .bool)))))))
abbrev BatchT : Type := (Int × (Int × (Int × (List CommandT))))
abbrev cBatch : Ty := (.pair (.int .i64) (.pair (.int .i64) (.pair (.int .i64) (.slice cCommand))))
abbrev PacketT : Type := (Int × (Int × (Int × (Int × (Int × (Int × (Int × (BatchT × ByteArray))))))))
abbrev cPacket : Ty := (.pair (.int .i64) (.pair (.int .i64) (.pair (.int .i64) (.pair (.int .i64) (.pair (.int .i64) (.pair (.int .i64) (.pair (.int .u64) (.pair cBatch .str))))))))
abbrev ConnT : Type := (Int × (Int × (Int × ((List PacketT) × (List PacketT)))))
abbrev cConn : Ty := (.pair (.int .i64) (.pair (.int .i64) (.pair (.int .i64) (.pair (.slice cPacket) (.slice cPacket)))))
end Go.Proofs.YtpiejdjanhnbeaaGreat

/- The functions of the program: which hand back new slices, which write what they are handed, what is told. -/
namespace Go.Proofs.YtpiejdjanhnbeaaGreat
open Go Go.Sk
def ownB (f : FuncId) : Bool := match f with | 14 => true | 9018 => true | 37 => true | 38 => true | _ => false
def refB (f : FuncId) : RefMode := match f with
  | 26 => .keep | 31 => .spent | 49 => .keep | 57 => .keep | 58 => .keep | 59 => .keep | 60 => .keep | 74 => .keep | 38 => .gone | 40 => .maps | 41 => .maker 56 | _ => .pure
def flatB (f : FuncId) : Bool := match f with | 66 => false | 82 => false | 63 => false | 77 => false | 15 => false | 9013 => false | _ => true
def primB (f : FuncId) (args : List V) (mem : List Sk.Obj) (ρ : RD) : Option ρ.El := match f with
  | 37 => clonePrim cPacket 120 args mem ρ
  | 40 => intKeysPrim 56 args mem ρ
  | 49 => selfPrim 64 args mem ρ
  | 31 => textPrim 64 args mem ρ
  | _ => none
def cfg0 : Cfg := { own := ownB, ref := refB, flat := flatB, self := fun t => t == 64 }
def cfg : Cfg := { own := ownB, ref := refB, flat := flatB, prim := primB, self := fun t => t == 64 }
end Go.Proofs.YtpiejdjanhnbeaaGreat

/- The functions, as limits of the evaluator: printed by a program. -/
set_option linter.unusedVariables false
namespace Go.Proofs.YtpiejdjanhnbeaaGreat
open Go Go.Sk

/-- skirmish/skirmishlaw47.LinkEncodes -/
noncomputable def law47_LinkEncodes.f (p : PacketT) (s : ByteArray) : Option Bool := callX Tryz.prog cfg 3 [(.agg (enc cPacket p)), (.one (.str s))] [] ⟨[.one (.ty .bool)], 0⟩
/-- skirmish/skirmishlaw47.short -/
noncomputable def law47_short.f (p : PacketT) : Option Bool := callX Tryz.prog cfg 4 [(.agg (enc cPacket p))] [] ⟨[.one (.ty .bool)], 0⟩
/-- skirmish/skirmishlaw47.awake -/
noncomputable def law47_awake.f  : Option Bool := callX Tryz.prog cfg 5 [] [] ⟨[.one (.ty .bool)], 0⟩
/-- skirmish/link.Decode -/
noncomputable def link_Decode.f (s : ByteArray) : Option (PacketT × Int) := callX Tryz.prog cfg 6 [(.one (.str s))] [] ⟨[.agg (.ty cPacket), .one (.ty (.int .i64))], 0⟩
/-- skirmish/skirmishref47.Decode -/
noncomputable def ref47_Decode.f (s : ByteArray) : Option (PacketT × Int) := callX Tryz.prog cfg 7 [(.one (.str s))] [] ⟨[.agg (.ty cPacket), .one (.ty (.int .i64))], 0⟩
/-- skirmish/link.Encode -/
noncomputable def link_Encode.f (p : PacketT) : Option ByteArray := callX Tryz.prog cfg 8 [(.agg (enc cPacket p))] [] ⟨[.one (.ty .str)], 0⟩
/-- skirmish/skirmishref47.Encode -/
noncomputable def ref47_Encode.f (p : PacketT) : Option ByteArray := callX Tryz.prog cfg 9 [(.agg (enc cPacket p))] [] ⟨[.one (.ty .str)], 0⟩
/-- skirmish/skirmishref47.SamePacket -/
noncomputable def ref47_SamePacket.f (a : PacketT) (b : PacketT) : Option Bool := callX Tryz.prog cfg 10 [(.agg (enc cPacket a)), (.agg (enc cPacket b))] [] ⟨[.one (.ty .bool)], 0⟩
noncomputable def law47_short.j0 (i : Int) (o0 : PacketT) : Option Bool := lim Tryz.prog cfg 4 ⟨[.one (.ty .bool)], 0⟩ [lpIn Tryz.prog 4 [1, 0, 1, 0, 0], .blk 0, cdIn Tryz.prog 4 [1, 1]] ⟨mkE 47 [(1, (.one (.ptr 0 0))), (3, (.one (.int .i64 i)))], [(.cells (enc cPacket o0))]⟩
/-- skirmish/link.New -/
noncomputable def link_New.f (peer : Int) : Option ConnT := callX Tryz.prog cfg 12 [(.one (.int .i64 peer))] [] ⟨[.agg (.ty cConn)], 0⟩
/-- skirmish/link.Send -/
noncomputable def link_Send.f (c : ConnT) (p : PacketT) : Option (ConnT × (PacketT × Int)) := callX Tryz.prog cfg 11 [(.agg (enc cConn c)), (.agg (enc cPacket p))] [] ⟨[.agg (.ty cConn), .agg (.ty cPacket), .one (.ty (.int .i64))], 0⟩
/-- skirmish/link.Receive -/
noncomputable def link_Receive.f (c : ConnT) (p : PacketT) : Option (ConnT × (List PacketT)) := callX Tryz.prog cfg 13 [(.agg (enc cConn c)), (.agg (enc cPacket p))] [] ⟨[.agg (.ty cConn), .one (.ty (.slice cPacket))], 0⟩
/-- skirmish/link.Resend -/
noncomputable def link_Resend.f (c : ConnT) : Option (List PacketT) := callX Tryz.prog cfg 14 [(.agg (enc cConn c))] [] ⟨[.one (.own cPacket)], 0⟩
/-- skirmish/link.Valid -/
noncomputable def link_Valid.f (c : ConnT) : Option Bool := callX Tryz.prog cfg 15 [(.agg (enc cConn c))] [] ⟨[.one (.ty .bool)], 0⟩
noncomputable def link_Decode.j0 (s : ByteArray) (at' : Int) (t24 : Int) (o0 : Int) (o01 : Int) (o02 : Int) (o03 : Int) (o04 : Int) (o05 : Int) (o06 : Int) (o07 : Int) (o08 : Int) (o09 : Int) (o010 : ByteArray) (o1 : (List CommandT)) (o2 : Int) (o21 : Int) (o22 : Int) (o23 : Int) (o24 : Int) (o25 : Int) (o26 : Int) (o27 : Int) (o28 : Int) (o29 : Int) (o210 : ByteArray) (o3 : (List CommandT)) : Option (PacketT × Int) := lim Tryz.prog cfg 6 ⟨[.agg (.ty cPacket), .one (.ty (.int .i64))], 0⟩ [lpIn Tryz.prog 6 [1, 1, 1, 0, 1, 0, 0], .blk 0, cdIn Tryz.prog 6 [1, 1, 1, 1]] ⟨mkE 97 [(0, (.one (.str s))), (2, (.one (.ptr 0 0))), (4, (.one (.ptr 2 0))), (5, (.one (.int .i64 at'))), (23, (.agg [(.ptr 2 0), (.ptr 2 1), (.ptr 2 2), (.ptr 2 3), (.ptr 2 4), (.ptr 2 5)])), (24, (.one (.int .i64 t24)))], [(.cells [(.int .i64 o0), (.int .i64 o01), (.int .i64 o02), (.int .i64 o03), (.int .i64 o04), (.int .i64 o05), (.int .u64 o06), (.int .i64 o07), (.int .i64 o08), (.int .i64 o09), (.osl 1), (.str o010)]), (.row cCommand o1), (.cells [(.int .i64 o2), (.int .i64 o21), (.int .i64 o22), (.int .i64 o23), (.int .i64 o24), (.int .i64 o25), (.int .u64 o26), (.int .i64 o27), (.int .i64 o28), (.int .i64 o29), (.osl 3), (.str o210)]), (.row cCommand o3)]⟩
noncomputable def ref47_Decode.j0 (s : ByteArray) (at' : Int) (i : Int) (o0 : Int) (o01 : Int) (o02 : Int) (o03 : Int) (o04 : Int) (o05 : Int) (o06 : Int) (o07 : Int) (o08 : Int) (o09 : Int) (o010 : ByteArray) (o1 : (List CommandT)) (o2 : (List Int)) : Option (PacketT × Int) := lim Tryz.prog cfg 7 ⟨[.agg (.ty cPacket), .one (.ty (.int .i64))], 0⟩ [lpIn Tryz.prog 7 [1, 1, 1, 0, 1, 0, 0], .blk 0, cdIn Tryz.prog 7 [1, 1, 1, 1]] ⟨mkE 115 [(0, (.one (.str s))), (2, (.one (.ptr 0 0))), (4, (.one (.osl 2))), (5, (.one (.int .i64 at'))), (6, (.one (.int .i64 i)))], [(.cells [(.int .i64 o0), (.int .i64 o01), (.int .i64 o02), (.int .i64 o03), (.int .i64 o04), (.int .i64 o05), (.int .u64 o06), (.int .i64 o07), (.int .i64 o08), (.int .i64 o09), (.osl 1), (.str o010)]), (.row cCommand o1), (.row (.int .i64) o2)]⟩
noncomputable def link_Encode.j0 (t18 : (Int × (Int × (Int × (Int × (Int × Int)))))) (t19 : Int) (o0 : PacketT) (o2 : (List Int)) : Option ByteArray := lim Tryz.prog cfg 8 ⟨[.one (.ty .str)], 0⟩ [lpIn Tryz.prog 8 [1, 1, 0, 1, 0, 0], .blk 0, cdIn Tryz.prog 8 [1, 1, 1]] ⟨mkE 42 [(1, (.one (.ptr 0 0))), (3, (.one (.ptr 1 0))), (18, (.agg (enc (.pair (.int .i64) (.pair (.int .i64) (.pair (.int .i64) (.pair (.int .i64) (.pair (.int .i64) (.int .i64)))))) t18))), (19, (.one (.int .i64 t19)))], [(.cells (enc cPacket o0)), (.cells [(.slf 64), (.osl 2)]), (.row (.int .u8) o2)]⟩
/-- skirmish/skirmishref04.Int -/
noncomputable def ref04_Int.f (n : Int) : Option ByteArray := callX Tryz.prog cfg 32 [(.one (.int .i64 n))] [] ⟨[.one (.ty .str)], 0⟩
/-- skirmish/skirmishref04.Uint -/
noncomputable def ref04_Uint.f (n : Int) : Option ByteArray := callX Tryz.prog cfg 33 [(.one (.int .u64 n))] [] ⟨[.one (.ty .str)], 0⟩
/-- skirmish/skirmishref04.Text -/
noncomputable def ref04_Text.f (s : ByteArray) : Option ByteArray := callX Tryz.prog cfg 34 [(.one (.str s))] [] ⟨[.one (.ty .str)], 0⟩
/-- skirmish/skirmishref46.Encode -/
noncomputable def ref46_Encode.f (b : BatchT) : Option ByteArray := callX Tryz.prog cfg 35 [(.agg (enc cBatch b))] [] ⟨[.one (.ty .str)], 0⟩
/-- skirmish/skirmishref46.Same -/
noncomputable def ref46_Same.f (a : BatchT) (b : BatchT) : Option Bool := callX Tryz.prog cfg 36 [(.agg (enc cBatch a)), (.agg (enc cBatch b))] [] ⟨[.one (.ty .bool)], 0⟩
/-- slices.Clone[[]skirmish/api.Packet,skirmish/api.Packet] -/
noncomputable def slices_Clone.f (s : (List PacketT)) : Option (List PacketT) := callX Tryz.prog cfg 37 [(.one (.slc cPacket s))] [] ⟨[.one (.own cPacket)], 0⟩
/-- slices.DeleteFunc[[]skirmish/api.Packet,skirmish/api.Packet] -/
noncomputable def slices_DeleteFunc.f (o : (List PacketT)) (o1 : PacketT) : Option ((List PacketT) × (Int × (Int × (Int × (Int × (Int × (Int × (Int × (Int × (Int × (Int × ((List CommandT) × ByteArray)))))))))))) := callX Tryz.prog cfg 38 [(.one (.osl 1)), (.one (.fn 39 [(.ptr 2 0)]))] [(.ghost [(.ptr 2 0)]), (.row cPacket o), (.cells (enc cPacket o1))] ⟨[.one (.own cPacket), .agg (.cat (.ty (.int .i64)) (.cat (.ty (.int .i64)) (.cat (.ty (.int .i64)) (.cat (.ty (.int .i64)) (.cat (.ty (.int .i64)) (.cat (.ty (.int .i64)) (.cat (.ty (.int .u64)) (.cat (.ty (.int .i64)) (.cat (.ty (.int .i64)) (.cat (.ty (.int .i64)) (.cat (.ty (.slice cCommand)) (.ty .str))))))))))))], 1⟩
noncomputable def link_Receive.j0 (t54 : (List PacketT)) (t55 : Int) (t56 : Int) (o0 : Int) (o01 : Int) (o02 : Int) (o03 : (List PacketT)) (o1 : (List PacketT)) (o2 : PacketT) (o3 : Int) (o31 : Int) (o32 : Int) (o4 : (List PacketT)) (o5 : (List PacketT)) (o6 : (List (Int × PacketT))) : Option (ConnT × (List PacketT)) := lim Tryz.prog cfg 13 ⟨[.agg (.ty cConn), .one (.ty (.slice cPacket))], 0⟩ [lpIn Tryz.prog 13 [1, 1, 1, 1, 1, 0, 1, 0, 0], .blk 0, cdIn Tryz.prog 13 [1, 1, 1, 1, 1, 1]] ⟨mkE 127 [(2, (.one (.ptr 0 0))), (3, (.one (.ptr 2 0))), (4, (.one (.ptr 3 0))), (6, (.one (.osl 6))), (54, (.one (.slc cPacket t54))), (55, (.one (.int .i64 t55))), (56, (.one (.int .i64 t56)))], [(.cells [(.int .i64 o0), (.int .i64 o01), (.int .i64 o02), (.osl 1), (.slc cPacket o03)]), (.row cPacket o1), (.cells (enc cPacket o2)), (.cells [(.int .i64 o3), (.int .i64 o31), (.int .i64 o32), (.osl 4), (.osl 5)]), (.row cPacket o4), (.row cPacket o5), (.map (.int .i64) cPacket true o6 true)]⟩
noncomputable def link_Resend.j0 (t12 : Int) (t13 : Int) (o0 : ConnT) (o1 : (List PacketT)) : Option (List PacketT) := lim Tryz.prog cfg 14 ⟨[.one (.own cPacket)], 0⟩ [lpIn Tryz.prog 14 [1, 1, 1, 0, 1, 0, 0], .blk 0, cdIn Tryz.prog 14 [1, 1, 1, 1]] ⟨mkE 24 [(1, (.one (.ptr 0 0))), (3, (.one (.osl 1))), (12, (.one (.int .i64 t12))), (13, (.one (.int .i64 t13)))], [(.cells (enc cConn o0)), (.row cPacket o1)]⟩
noncomputable def link_Valid.j0 (t42 : Bool) (o0 : ConnT) : Option Bool := lim Tryz.prog cfg 15 ⟨[.one (.ty .bool)], 0⟩ [cdIn Tryz.prog 15 [1, 0, 1], cdIn Tryz.prog 15 [1, 1]] ⟨mkE 113 [(1, (.one (.ptr 0 0))), (42, (.one (.bool t42)))], [(.cells (enc cConn o0))]⟩
/-- skirmish/wire.TakeInt -/
noncomputable def wire_TakeInt.f (s : ByteArray) (at' : Int) : Option (Int × (Int × Int)) := callX Tryz.prog cfg 16 [(.one (.str s)), (.one (.int .i64 at'))] [] ⟨[.one (.ty (.int .i64)), .one (.ty (.int .i64)), .one (.ty (.int .i64))], 0⟩
/-- skirmish/wire.TakeUint -/
noncomputable def wire_TakeUint.f (s : ByteArray) (at' : Int) : Option (Int × (Int × Int)) := callX Tryz.prog cfg 17 [(.one (.str s)), (.one (.int .i64 at'))] [] ⟨[.one (.ty (.int .u64)), .one (.ty (.int .i64)), .one (.ty (.int .i64))], 0⟩
/-- skirmish/wire.TakeText -/
noncomputable def wire_TakeText.f (s : ByteArray) (at' : Int) (most : Int) : Option (ByteArray × (Int × Int)) := callX Tryz.prog cfg 18 [(.one (.str s)), (.one (.int .i64 at')), (.one (.int .i64 most))] [] ⟨[.one (.ty .str), .one (.ty (.int .i64)), .one (.ty (.int .i64))], 0⟩
/-- skirmish/input.Decode -/
noncomputable def input_Decode.f (s : ByteArray) (at' : Int) : Option (BatchT × (Int × Int)) := callX Tryz.prog cfg 19 [(.one (.str s)), (.one (.int .i64 at'))] [] ⟨[.agg (.ty cBatch), .one (.ty (.int .i64)), .one (.ty (.int .i64))], 0⟩
/-- skirmish/link.regular -/
noncomputable def link_regular.f (p : PacketT) : Option Bool := callX Tryz.prog cfg 20 [(.agg (enc cPacket p))] [] ⟨[.one (.ty .bool)], 0⟩
/-- skirmish/skirmishref04.TakeInt -/
noncomputable def ref04_TakeInt.f (s : ByteArray) (at' : Int) : Option (Int × (Int × Int)) := callX Tryz.prog cfg 21 [(.one (.str s)), (.one (.int .i64 at'))] [] ⟨[.one (.ty (.int .i64)), .one (.ty (.int .i64)), .one (.ty (.int .i64))], 0⟩
/-- skirmish/skirmishref04.TakeUint -/
noncomputable def ref04_TakeUint.f (s : ByteArray) (at' : Int) : Option (Int × (Int × Int)) := callX Tryz.prog cfg 22 [(.one (.str s)), (.one (.int .i64 at'))] [] ⟨[.one (.ty (.int .u64)), .one (.ty (.int .i64)), .one (.ty (.int .i64))], 0⟩
/-- skirmish/skirmishref04.TakeText -/
noncomputable def ref04_TakeText.f (s : ByteArray) (at' : Int) (most : Int) : Option (ByteArray × (Int × Int)) := callX Tryz.prog cfg 23 [(.one (.str s)), (.one (.int .i64 at')), (.one (.int .i64 most))] [] ⟨[.one (.ty .str), .one (.ty (.int .i64)), .one (.ty (.int .i64))], 0⟩
/-- skirmish/skirmishref46.Decode -/
noncomputable def ref46_Decode.f (s : ByteArray) (at' : Int) : Option (BatchT × (Int × Int)) := callX Tryz.prog cfg 24 [(.one (.str s)), (.one (.int .i64 at'))] [] ⟨[.agg (.ty cBatch), .one (.ty (.int .i64)), .one (.ty (.int .i64))], 0⟩
/-- skirmish/skirmishref47.Regular -/
noncomputable def ref47_Regular.f (p : PacketT) : Option Bool := callX Tryz.prog cfg 25 [(.agg (enc cPacket p))] [] ⟨[.one (.ty .bool)], 0⟩
/-- skirmish/wire.Int -/
noncomputable def wire_Int.f (n : Int) : Option ByteArray := callX Tryz.prog cfg 27 [(.one (.int .i64 n))] [] ⟨[.one (.ty .str)], 0⟩
/-- (*strings.Builder).WriteString -/
noncomputable def __strings_Builder__WriteString.f (s : ByteArray) (o : (List Int)) : Option (Int × (Unit × (Unit × (List Int)))) := callX Tryz.prog cfg 26 [(.one (.ptr 1 0)), (.one (.str s))] [(.ghost [(.ptr 1 0)]), (.cells [(.slf 64), (.osl 2)]), (.row (.int .u8) o)] ⟨[.one (.ty (.int .i64)), .one .nothing, .agg (.cat (.keep (.slf 64)) (.own (.int .u8)))], 1⟩
/-- skirmish/wire.Uint -/
noncomputable def wire_Uint.f (n : Int) : Option ByteArray := callX Tryz.prog cfg 28 [(.one (.int .u64 n))] [] ⟨[.one (.ty .str)], 0⟩
/-- skirmish/wire.Text -/
noncomputable def wire_Text.f (s : ByteArray) : Option ByteArray := callX Tryz.prog cfg 29 [(.one (.str s))] [] ⟨[.one (.ty .str)], 0⟩
/-- skirmish/input.Encode -/
noncomputable def input_Encode.f (b : BatchT) : Option ByteArray := callX Tryz.prog cfg 30 [(.agg (enc cBatch b))] [] ⟨[.one (.ty .str)], 0⟩
/-- (*strings.Builder).String -/
noncomputable def __strings_Builder__String.f (o : (List Int)) : Option ByteArray := callX Tryz.prog cfg 31 [(.one (.ptr 1 0))] [(.ghost []), (.cells [(.slf 64), (.osl 2)]), (.row (.int .u8) o)] ⟨[.one (.ty .str)], 0⟩
noncomputable def ref04_Uint.j0 (n : Int) (s : ByteArray) : Option ByteArray := lim Tryz.prog cfg 33 ⟨[.one (.ty .str)], 0⟩ [lpIn Tryz.prog 33 [1, 1, 0, 0, 0], .blk 0, cdIn Tryz.prog 33 [1, 1, 1]] ⟨mkE 22 [(0, (.one (.int .u64 n))), (3, (.one (.str s)))], []⟩
noncomputable def ref46_Encode.j0 (s : ByteArray) (i : Int) (o0 : BatchT) : Option ByteArray := lim Tryz.prog cfg 35 ⟨[.one (.ty .str)], 0⟩ [lpIn Tryz.prog 35 [1, 1, 0, 1, 0, 0], .blk 0, cdIn Tryz.prog 35 [1, 1, 1]] ⟨mkE 38 [(1, (.one (.ptr 0 0))), (3, (.one (.str s))), (4, (.one (.int .i64 i)))], [(.cells (enc cBatch o0))]⟩
/-- skirmish/skirmishref46.SameCommands -/
noncomputable def ref46_SameCommands.f (a : (List CommandT)) (b : (List CommandT)) : Option Bool := callX Tryz.prog cfg 52 [(.one (.slc cCommand a)), (.one (.slc cCommand b))] [] ⟨[.one (.ty .bool)], 0⟩
/-- slices.IndexFunc[[]skirmish/api.Packet,skirmish/api.Packet] -/
noncomputable def slices_IndexFunc.f (s : (List PacketT)) (f : PacketT) : Option Int := callX Tryz.prog cfg 53 [(.one (.slc cPacket s)), (.one (.fn 39 [(.rptr (enc cPacket f))]))] [] ⟨[.one (.ty (.int .i64))], 0⟩
noncomputable def slices_DeleteFunc.j0 (i : Int) (j : Int) (o1 : PacketT) (o2 : (List PacketT)) : Option ((List PacketT) × (Int × (Int × (Int × (Int × (Int × (Int × (Int × (Int × (Int × (Int × ((List CommandT) × ByteArray)))))))))))) := lim Tryz.prog cfg 38 ⟨[.one (.own cPacket), .agg (.cat (.ty (.int .i64)) (.cat (.ty (.int .i64)) (.cat (.ty (.int .i64)) (.cat (.ty (.int .i64)) (.cat (.ty (.int .i64)) (.cat (.ty (.int .i64)) (.cat (.ty (.int .u64)) (.cat (.ty (.int .i64)) (.cat (.ty (.int .i64)) (.cat (.ty (.int .i64)) (.cat (.ty (.slice cCommand)) (.ty .str))))))))))))], 1⟩ [lpIn Tryz.prog 38 [1, 1, 1, 0, 1, 0, 0], .blk 0, cdIn Tryz.prog 38 [1, 1, 1, 1]] ⟨mkE 42 [(0, (.one (.osl 2))), (1, (.one (.fn 39 [(.ptr 1 0)]))), (5, (.one (.int .i64 i))), (6, (.one (.int .i64 j)))], [(.ghost [(.ptr 1 0)]), (.cells (enc cPacket o1)), (.row cPacket o2)]⟩
noncomputable def link_Receive.j1 (ok : Bool) (o0 : Int) (o01 : Int) (o02 : Int) (o03 : (List PacketT)) (o1 : (List PacketT)) (o2 : Int) (o21 : Int) (o22 : Int) (o3 : (List PacketT)) (o4 : (List PacketT)) (o5 : (List (Int × PacketT))) (o6 : (List PacketT)) (o7 : PacketT) : Option (ConnT × (List PacketT)) := lim Tryz.prog cfg 13 ⟨[.agg (.ty cConn), .one (.ty (.slice cPacket))], 0⟩ [lpIn Tryz.prog 13 [1, 1, 1, 1, 1, 1, 1, 1, 1, 0, 1, 0, 0], .blk 2, cdIn Tryz.prog 13 [1, 1, 1, 1, 1, 1, 1, 1, 1, 1]] ⟨mkE 127 [(2, (.one (.ptr 0 0))), (4, (.one (.ptr 2 0))), (6, (.one (.osl 5))), (11, (.one (.osl 6))), (12, (.one (.ptr 7 0))), (13, (.one (.bool ok)))], [(.cells [(.int .i64 o0), (.int .i64 o01), (.int .i64 o02), (.osl 1), (.slc cPacket o03)]), (.row cPacket o1), (.cells [(.int .i64 o2), (.int .i64 o21), (.int .i64 o22), (.osl 3), (.osl 4)]), (.row cPacket o3), (.row cPacket o4), (.map (.int .i64) cPacket true o5 true), (.row cPacket o6), (.cells (enc cPacket o7))]⟩
noncomputable def link_Valid.j1 (first : Int) (t50 : (List PacketT)) (t51 : Int) (t52 : Int) (o0 : ConnT) : Option Bool := lim Tryz.prog cfg 15 ⟨[.one (.ty .bool)], 0⟩ [lpIn Tryz.prog 15 [1, 1, 1, 0, 1, 0, 0], .blk 0, cdIn Tryz.prog 15 [1, 1, 1, 1]] ⟨mkE 113 [(1, (.one (.ptr 0 0))), (3, (.one (.int .i64 first))), (50, (.one (.slc cPacket t50))), (51, (.one (.int .i64 t51))), (52, (.one (.int .i64 t52)))], [(.cells (enc cConn o0))]⟩
noncomputable def wire_TakeUint.j0 (s : ByteArray) (at' : Int) (n : Int) (t18 : Int) : Option (Int × (Int × Int)) := lim Tryz.prog cfg 17 ⟨[.one (.ty (.int .u64)), .one (.ty (.int .i64)), .one (.ty (.int .i64))], 0⟩ [lpIn Tryz.prog 17 [1, 1, 1, 0, 1, 0, 0], .blk 0, cdIn Tryz.prog 17 [1, 1, 1, 1]] ⟨mkE 60 [(0, (.one (.str s))), (1, (.one (.int .i64 at'))), (7, (.one (.int .u64 n))), (18, (.one (.int .i64 t18)))], []⟩
/-- skirmish/wire.TakeCount -/
noncomputable def wire_TakeCount.f (s : ByteArray) (at' : Int) (most : Int) : Option (Int × (Int × Int)) := callX Tryz.prog cfg 42 [(.one (.str s)), (.one (.int .i64 at')), (.one (.int .i64 most))] [] ⟨[.one (.ty (.int .i64)), .one (.ty (.int .i64)), .one (.ty (.int .i64))], 0⟩
noncomputable def input_Decode.j0 (s : ByteArray) (at' : Int) (t22 : Int) (o0 : Int) (o01 : Int) (o02 : Int) (o1 : (List CommandT)) (o2 : Int) (o21 : Int) (o22 : Int) (o3 : (List CommandT)) : Option (BatchT × (Int × Int)) := lim Tryz.prog cfg 19 ⟨[.agg (.ty cBatch), .one (.ty (.int .i64)), .one (.ty (.int .i64))], 0⟩ [lpIn Tryz.prog 19 [1, 1, 0, 1, 0, 0], .blk 0, cdIn Tryz.prog 19 [1, 1, 1]] ⟨mkE 80 [(0, (.one (.str s))), (1, (.one (.int .i64 at'))), (4, (.one (.ptr 0 0))), (7, (.one (.ptr 2 0))), (21, (.agg [(.ptr 2 0), (.ptr 2 1), (.ptr 2 2)])), (22, (.one (.int .i64 t22)))], [(.cells [(.int .i64 o0), (.int .i64 o01), (.int .i64 o02), (.osl 1)]), (.row cCommand o1), (.cells [(.int .i64 o2), (.int .i64 o21), (.int .i64 o22), (.osl 3)]), (.row cCommand o3)]⟩
noncomputable def link_regular.j0 (t15 : (Int × (Int × (Int × (Int × Int))))) (t16 : Int) (o0 : PacketT) : Option Bool := lim Tryz.prog cfg 20 ⟨[.one (.ty .bool)], 0⟩ [lpIn Tryz.prog 20 [1, 0, 1, 0, 0], .blk 0, cdIn Tryz.prog 20 [1, 1]] ⟨mkE 34 [(1, (.one (.ptr 0 0))), (15, (.agg (enc (.pair (.int .i64) (.pair (.int .i64) (.pair (.int .i64) (.pair (.int .i64) (.int .i64))))) t15))), (16, (.one (.int .i64 t16)))], [(.cells (enc cPacket o0))]⟩
noncomputable def ref04_TakeUint.j0 (s : ByteArray) (at' : Int) (n : Int) (k : Int) : Option (Int × (Int × Int)) := lim Tryz.prog cfg 22 ⟨[.one (.ty (.int .u64)), .one (.ty (.int .i64)), .one (.ty (.int .i64))], 0⟩ [lpIn Tryz.prog 22 [1, 1, 1, 0, 1, 0, 0], .blk 0, cdIn Tryz.prog 22 [1, 1, 1, 1]] ⟨mkE 61 [(0, (.one (.str s))), (1, (.one (.int .i64 at'))), (7, (.one (.int .u64 n))), (8, (.one (.int .i64 k)))], []⟩
/-- skirmish/skirmishref04.TakeCount -/
noncomputable def ref04_TakeCount.f (s : ByteArray) (at' : Int) (most : Int) : Option (Int × (Int × Int)) := callX Tryz.prog cfg 45 [(.one (.str s)), (.one (.int .i64 at')), (.one (.int .i64 most))] [] ⟨[.one (.ty (.int .i64)), .one (.ty (.int .i64)), .one (.ty (.int .i64))], 0⟩
noncomputable def ref46_Decode.j0 (s : ByteArray) (n : Int) (next' : Int) (i : Int) (o0 : Int) (o01 : Int) (o02 : Int) (o1 : (List CommandT)) (o2 : Int) (o21 : Int) (o22 : Int) (o3 : (List CommandT)) : Option (BatchT × (Int × Int)) := lim Tryz.prog cfg 24 ⟨[.agg (.ty cBatch), .one (.ty (.int .i64)), .one (.ty (.int .i64))], 0⟩ [lpIn Tryz.prog 24 [1, 1, 1, 1, 1, 1, 1, 1, 1, 1, 0, 1, 0, 0], .blk 0, cdIn Tryz.prog 24 [1, 1, 1, 1, 1, 1, 1, 1, 1, 1, 1]] ⟨mkE 101 [(0, (.one (.str s))), (4, (.one (.ptr 0 0))), (16, (.one (.int .i64 n))), (17, (.one (.int .i64 next'))), (19, (.one (.ptr 2 0))), (20, (.one (.int .i64 i)))], [(.cells [(.int .i64 o0), (.int .i64 o01), (.int .i64 o02), (.osl 1)]), (.row cCommand o1), (.cells [(.int .i64 o2), (.int .i64 o21), (.int .i64 o22), (.osl 3)]), (.row cCommand o3)]⟩
/-- skirmish/skirmishref47.count -/
noncomputable def ref47_count.f (n : Int) (lo' : Int) : Option Bool := callX Tryz.prog cfg 48 [(.one (.int .i64 n)), (.one (.int .i64 lo'))] [] ⟨[.one (.ty .bool)], 0⟩
/-- skirmish/skirmishref46.Valid -/
noncomputable def ref46_Valid.f (b : BatchT) : Option Bool := callX Tryz.prog cfg 47 [(.agg (enc cBatch b))] [] ⟨[.one (.ty .bool)], 0⟩
/-- (*strings.Builder).copyCheck -/
noncomputable def __strings_Builder__copyCheck.f (o : (List Int)) : Option (Unit × (List Int)) := callX Tryz.prog cfg 49 [(.one (.ptr 1 0))] [(.ghost [(.ptr 1 0)]), (.cells [(.slf 64), (.osl 2)]), (.row (.int .u8) o)] ⟨[.agg (.cat (.keep (.slf 64)) (.own (.int .u8)))], 1⟩
noncomputable def wire_Uint.j0 (n : Int) (o0 : (List Int)) : Option ByteArray := lim Tryz.prog cfg 28 ⟨[.one (.ty .str)], 0⟩ [lpIn Tryz.prog 28 [1, 1, 0, 0, 0], .blk 0, cdIn Tryz.prog 28 [1, 1, 1]] ⟨mkE 26 [(0, (.one (.int .u64 n))), (3, (.one (.osl 0)))], [(.row (.int .u8) o0)]⟩
/-- (*strings.Builder).WriteString -/
noncomputable def __strings_Builder__WriteString_1.f (s : ByteArray) : Option (Int × (Unit × (Unit × (List Int)))) := callX Tryz.prog cfg 26 [(.one (.ptr 1 0)), (.one (.str s))] [(.ghost [(.ptr 1 0)]), (.cells [(.slf 64), (.nils (.int .u8))])] ⟨[.one (.ty (.int .i64)), .one .nothing, .agg (.cat (.keep (.slf 64)) (.own (.int .u8)))], 1⟩
noncomputable def input_Encode.j0 (t25 : (List CommandT)) (t26 : Int) (t27 : Int) (o1 : (List Int)) : Option ByteArray := lim Tryz.prog cfg 30 ⟨[.one (.ty .str)], 0⟩ [lpIn Tryz.prog 30 [1, 1, 1, 0, 1, 0, 0], .blk 0, cdIn Tryz.prog 30 [1, 1, 1, 1]] ⟨mkE 36 [(3, (.one (.ptr 0 0))), (25, (.one (.slc cCommand t25))), (26, (.one (.int .i64 t26))), (27, (.one (.int .i64 t27)))], [(.cells [(.slf 64), (.osl 1)]), (.row (.int .u8) o1)]⟩
/-- skirmish/skirmishref34.Encode -/
noncomputable def ref34_Encode.f (c : CommandT) : Option ByteArray := callX Tryz.prog cfg 51 [(.agg (enc cCommand c))] [] ⟨[.one (.ty .str)], 0⟩
noncomputable def ref46_SameCommands.j0 (a : (List CommandT)) (b : (List CommandT)) (i : Int) : Option Bool := lim Tryz.prog cfg 52 ⟨[.one (.ty .bool)], 0⟩ [lpIn Tryz.prog 52 [1, 1, 0, 1, 0, 0], .blk 0, cdIn Tryz.prog 52 [1, 1, 1]] ⟨mkE 27 [(0, (.one (.slc cCommand a))), (1, (.one (.slc cCommand b))), (5, (.one (.int .i64 i)))], []⟩
noncomputable def slices_IndexFunc.j0 (s : (List PacketT)) (f : PacketT) (t7 : Int) (t8 : Int) : Option Int := lim Tryz.prog cfg 53 ⟨[.one (.ty (.int .i64))], 0⟩ [lpIn Tryz.prog 53 [1, 0, 1, 0, 0], .blk 0, cdIn Tryz.prog 53 [1, 1]] ⟨mkE 19 [(0, (.one (.slc cPacket s))), (1, (.one (.fn 39 [(.rptr (enc cPacket f))]))), (7, (.one (.int .i64 t7))), (8, (.one (.int .i64 t8)))], []⟩
/-- skirmish/link.Receive$1 -/
noncomputable def link_Receive_1.f (x' : PacketT) (a1 : PacketT) : Option Bool := callX Tryz.prog cfg 39 [(.agg (enc cPacket x')), (.one (.rptr (enc cPacket a1)))] [] ⟨[.one (.ty .bool)], 0⟩
noncomputable def link_Receive.j2 (ok : Bool) (o0 : Int) (o01 : Int) (o02 : Int) (o03 : (List PacketT)) (o1 : (List PacketT)) (o2 : Int) (o21 : Int) (o22 : Int) (o3 : (List PacketT)) (o4 : (List PacketT)) (o5 : (List (Int × PacketT))) (o6 : (List PacketT)) (o7 : PacketT) : Option (ConnT × (List PacketT)) := lim Tryz.prog cfg 13 ⟨[.agg (.ty cConn), .one (.ty (.slice cPacket))], 0⟩ [lpIn Tryz.prog 13 [1, 1, 1, 1, 1, 1, 1, 1, 1, 0, 1, 0, 0], .blk 2, cdIn Tryz.prog 13 [1, 1, 1, 1, 1, 1, 1, 1, 1, 1]] ⟨mkE 127 [(2, (.one (.ptr 0 0))), (4, (.one (.ptr 2 0))), (6, (.one (.osl 5))), (11, (.one (.osl 6))), (12, (.one (.ptr 7 0))), (13, (.one (.bool ok)))], [(.cells [(.int .i64 o0), (.int .i64 o01), (.int .i64 o02), (.osl 1), (.slc cPacket o03)]), (.row cPacket o1), (.cells [(.int .i64 o2), (.int .i64 o21), (.int .i64 o22), (.osl 3), (.osl 4)]), (.row cPacket o3), (.row cPacket o4), (.map (.int .i64) cPacket true o5 false), (.row cPacket o6), (.cells (enc cPacket o7))]⟩
/-- slices.Sorted[int] -/
noncomputable def slices_Sorted.f (o : (List (Int × PacketT))) : Option ((List Int) × (List (Int × PacketT))) := callX Tryz.prog cfg 40 [(.one (.fn 56 [(.ptr 1 0)]))] [(.ghost [(.osl 2)]), (.cells [(.osl 2)]), (.map (.int .i64) cPacket true o true)] ⟨[.one (.ty (.slice (.int .i64))), .one (.map (.int .i64) cPacket true true)], 1⟩
noncomputable def link_Receive.j3 (t110 : (List Int)) (t111 : Int) (t112 : Int) (o0 : Int) (o01 : Int) (o02 : Int) (o1 : (List PacketT)) (o2 : (List PacketT)) (o3 : Int) (o31 : Int) (o32 : Int) (o4 : (List PacketT)) (o5 : (List PacketT)) (o6 : (List (Int × PacketT))) (o7 : (List PacketT)) : Option (ConnT × (List PacketT)) := lim Tryz.prog cfg 13 ⟨[.agg (.ty cConn), .one (.ty (.slice cPacket))], 0⟩ [lpIn Tryz.prog 13 [1, 1, 1, 1, 1, 1, 1, 1, 1, 1, 1, 0, 1, 0, 0], .blk 4, cdIn Tryz.prog 13 [1, 1, 1, 1, 1, 1, 1, 1, 1, 1, 1, 1]] ⟨mkE 127 [(2, (.one (.ptr 0 0))), (4, (.one (.ptr 3 0))), (6, (.one (.osl 6))), (11, (.one (.osl 7))), (110, (.one (.slc (.int .i64) t110))), (111, (.one (.int .i64 t111))), (112, (.one (.int .i64 t112)))], [(.cells [(.int .i64 o0), (.int .i64 o01), (.int .i64 o02), (.osl 1), (.osl 2)]), (.row cPacket o1), (.row cPacket o2), (.cells [(.int .i64 o3), (.int .i64 o31), (.int .i64 o32), (.osl 4), (.osl 5)]), (.row cPacket o4), (.row cPacket o5), (.map (.int .i64) cPacket true o6 true), (.row cPacket o7)]⟩
noncomputable def link_Valid.j2 (first : Int) (t50 : (List PacketT)) (t51 : Int) (t52 : Int) (t74 : Bool) (o0 : ConnT) : Option Bool := lim Tryz.prog cfg 15 ⟨[.one (.ty .bool)], 0⟩ [cdIn Tryz.prog 15 [1, 1, 1, 0, 1, 0, 0, 1, 1, 0, 0, 1, 1], .blk 1, cdIn Tryz.prog 15 [1, 1, 1, 0, 1, 0, 0, 1, 1, 1], lpIn Tryz.prog 15 [1, 1, 1, 0, 1, 0, 0], .blk 0, cdIn Tryz.prog 15 [1, 1, 1, 1]] ⟨mkE 113 [(1, (.one (.ptr 0 0))), (3, (.one (.int .i64 first))), (50, (.one (.slc cPacket t50))), (51, (.one (.int .i64 t51))), (52, (.one (.int .i64 t52))), (74, (.one (.bool t74)))], [(.cells (enc cConn o0))]⟩
noncomputable def link_Valid.j3 (last : Int) (t80 : (List PacketT)) (t81 : Int) (t82 : Int) (o0 : ConnT) : Option Bool := lim Tryz.prog cfg 15 ⟨[.one (.ty .bool)], 0⟩ [lpIn Tryz.prog 15 [1, 1, 1, 1, 1, 0, 1, 0, 0], .blk 2, cdIn Tryz.prog 15 [1, 1, 1, 1, 1, 1]] ⟨mkE 113 [(1, (.one (.ptr 0 0))), (6, (.one (.int .i64 last))), (80, (.one (.slc cPacket t80))), (81, (.one (.int .i64 t81))), (82, (.one (.int .i64 t82)))], [(.cells (enc cConn o0))]⟩
noncomputable def input_Decode.j1 (s : ByteArray) (at' : Int) (t52 : Int) (t53 : Int) (o0 : Int) (o01 : Int) (o02 : Int) (o1 : (List CommandT)) (o2 : Int) (o21 : Int) (o22 : Int) (o3 : (List CommandT)) : Option (BatchT × (Int × Int)) := lim Tryz.prog cfg 19 ⟨[.agg (.ty cBatch), .one (.ty (.int .i64)), .one (.ty (.int .i64))], 0⟩ [lpIn Tryz.prog 19 [1, 1, 1, 1, 1, 0, 1, 0, 0], .blk 2, cdIn Tryz.prog 19 [1, 1, 1, 1, 1, 1]] ⟨mkE 80 [(0, (.one (.str s))), (1, (.one (.int .i64 at'))), (4, (.one (.ptr 0 0))), (7, (.one (.ptr 2 0))), (52, (.one (.int .i64 t52))), (53, (.one (.int .i64 t53)))], [(.cells [(.int .i64 o0), (.int .i64 o01), (.int .i64 o02), (.osl 1)]), (.row cCommand o1), (.cells [(.int .i64 o2), (.int .i64 o21), (.int .i64 o22), (.osl 3)]), (.row cCommand o3)]⟩
/-- skirmish/skirmishref34.Decode -/
noncomputable def ref34_Decode.f (s : ByteArray) (at' : Int) : Option (CommandT × (Int × Int)) := callX Tryz.prog cfg 46 [(.one (.str s)), (.one (.int .i64 at'))] [] ⟨[.agg (.ty cCommand), .one (.ty (.int .i64)), .one (.ty (.int .i64))], 0⟩
noncomputable def ref46_Valid.j0 (i : Int) (o0 : BatchT) : Option Bool := lim Tryz.prog cfg 47 ⟨[.one (.ty .bool)], 0⟩ [lpIn Tryz.prog 47 [1, 1, 0, 1, 0, 0], .blk 0, cdIn Tryz.prog 47 [1, 1, 1]] ⟨mkE 63 [(1, (.one (.ptr 0 0))), (3, (.one (.int .i64 i)))], [(.cells (enc cBatch o0))]⟩
/-- (*strings.Builder).copyCheck -/
noncomputable def __strings_Builder__copyCheck_1.f  : Option (Unit × (List Int)) := callX Tryz.prog cfg 49 [(.one (.ptr 1 0))] [(.ghost [(.ptr 1 0)]), (.cells [(.slf 64), (.nils (.int .u8))])] ⟨[.agg (.cat (.keep (.slf 64)) (.own (.int .u8)))], 1⟩
/-- skirmish/command.Encode -/
noncomputable def command_Encode.f (c : CommandT) : Option ByteArray := callX Tryz.prog cfg 50 [(.agg (enc cCommand c))] [] ⟨[.one (.ty .str)], 0⟩
noncomputable def ref34_Encode.j0 (s : ByteArray) (i : Int) (o0 : CommandT) : Option ByteArray := lim Tryz.prog cfg 51 ⟨[.one (.ty .str)], 0⟩ [lpIn Tryz.prog 51 [1, 1, 0, 1, 0, 0], .blk 0, cdIn Tryz.prog 51 [1, 1, 1]] ⟨mkE 60 [(1, (.one (.ptr 0 0))), (3, (.one (.str s))), (4, (.one (.int .i64 i)))], [(.cells (enc cCommand o0))]⟩
/-- skirmish/skirmishref34.Same -/
noncomputable def ref34_Same.f (a : CommandT) (b : CommandT) : Option Bool := callX Tryz.prog cfg 70 [(.agg (enc cCommand a)), (.agg (enc cCommand b))] [] ⟨[.one (.ty .bool)], 0⟩
/-- slices.Sorted[int] -/
noncomputable def slices_Sorted_1.f (o : (List (Int × PacketT))) : Option ((List Int) × (List (Int × PacketT))) := callX Tryz.prog cfg 40 [(.one (.fn 56 [(.ptr 1 0)]))] [(.ghost [(.osl 2)]), (.cells [(.osl 2)]), (.map (.int .i64) cPacket true o false)] ⟨[.one (.ty (.slice (.int .i64))), .one (.map (.int .i64) cPacket true false)], 1⟩
noncomputable def link_Receive.j4 (t110 : (List Int)) (t111 : Int) (t112 : Int) (o0 : Int) (o01 : Int) (o02 : Int) (o1 : (List PacketT)) (o2 : (List PacketT)) (o3 : Int) (o31 : Int) (o32 : Int) (o4 : (List PacketT)) (o5 : (List PacketT)) (o6 : (List (Int × PacketT))) (o7 : (List PacketT)) : Option (ConnT × (List PacketT)) := lim Tryz.prog cfg 13 ⟨[.agg (.ty cConn), .one (.ty (.slice cPacket))], 0⟩ [lpIn Tryz.prog 13 [1, 1, 1, 1, 1, 1, 1, 1, 1, 1, 1, 0, 1, 0, 0], .blk 4, cdIn Tryz.prog 13 [1, 1, 1, 1, 1, 1, 1, 1, 1, 1, 1, 1]] ⟨mkE 127 [(2, (.one (.ptr 0 0))), (4, (.one (.ptr 3 0))), (6, (.one (.osl 6))), (11, (.one (.osl 7))), (110, (.one (.slc (.int .i64) t110))), (111, (.one (.int .i64 t111))), (112, (.one (.int .i64 t112)))], [(.cells [(.int .i64 o0), (.int .i64 o01), (.int .i64 o02), (.osl 1), (.osl 2)]), (.row cPacket o1), (.row cPacket o2), (.cells [(.int .i64 o3), (.int .i64 o31), (.int .i64 o32), (.osl 4), (.osl 5)]), (.row cPacket o4), (.row cPacket o5), (.map (.int .i64) cPacket true o6 false), (.row cPacket o7)]⟩
noncomputable def link_Valid.j4 (t80 : (List PacketT)) (t81 : Int) (t82 : Int) (t109 : Bool) (o0 : ConnT) (o1 : PacketT) : Option Bool := lim Tryz.prog cfg 15 ⟨[.one (.ty .bool)], 0⟩ [cdIn Tryz.prog 15 [1, 1, 1, 1, 1, 0, 1, 0, 0, 1, 1, 0, 0, 1, 0, 1], cdIn Tryz.prog 15 [1, 1, 1, 1, 1, 0, 1, 0, 0, 1, 1, 0, 0, 1, 1], .blk 3, cdIn Tryz.prog 15 [1, 1, 1, 1, 1, 0, 1, 0, 0, 1, 1, 1], lpIn Tryz.prog 15 [1, 1, 1, 1, 1, 0, 1, 0, 0], .blk 2, cdIn Tryz.prog 15 [1, 1, 1, 1, 1, 1]] ⟨mkE 113 [(1, (.one (.ptr 0 0))), (8, (.one (.ptr 1 0))), (80, (.one (.slc cPacket t80))), (81, (.one (.int .i64 t81))), (82, (.one (.int .i64 t82))), (109, (.one (.bool t109)))], [(.cells (enc cConn o0)), (.cells (enc cPacket o1))]⟩
/-- skirmish/command.Decode -/
noncomputable def command_Decode.f (s : ByteArray) (at' : Int) : Option (CommandT × (Int × Int)) := callX Tryz.prog cfg 43 [(.one (.str s)), (.one (.int .i64 at'))] [] ⟨[.agg (.ty cCommand), .one (.ty (.int .i64)), .one (.ty (.int .i64))], 0⟩
/-- skirmish/input.Valid -/
noncomputable def input_Valid.f (b : BatchT) : Option Bool := callX Tryz.prog cfg 44 [(.agg (enc cBatch b))] [] ⟨[.one (.ty .bool)], 0⟩
/-- skirmish/skirmishref34.ints -/
noncomputable def ref34_ints.f (s : ByteArray) (at' : Int) (n : Int) : Option ((List Int) × (Int × Int)) := callX Tryz.prog cfg 64 [(.one (.str s)), (.one (.int .i64 at')), (.one (.int .i64 n))] [] ⟨[.one (.ty (.slice (.int .i64))), .one (.ty (.int .i64)), .one (.ty (.int .i64))], 0⟩
/-- skirmish/skirmishref04.TakeBool -/
noncomputable def ref04_TakeBool.f (s : ByteArray) (at' : Int) : Option (Bool × (Int × Int)) := callX Tryz.prog cfg 65 [(.one (.str s)), (.one (.int .i64 at'))] [] ⟨[.one (.ty .bool), .one (.ty (.int .i64)), .one (.ty (.int .i64))], 0⟩
/-- skirmish/skirmishref34.Valid -/
noncomputable def ref34_Valid.f (c : CommandT) : Option Int := callX Tryz.prog cfg 66 [(.agg (enc cCommand c))] [] ⟨[.one (.ty (.int .i64))], 0⟩
noncomputable def command_Encode.j0 (t23 : (List Int)) (t24 : Int) (t25 : Int) (o0 : CommandT) (o2 : (List Int)) : Option ByteArray := lim Tryz.prog cfg 50 ⟨[.one (.ty .str)], 0⟩ [lpIn Tryz.prog 50 [1, 1, 1, 0, 1, 0, 0], .blk 0, cdIn Tryz.prog 50 [1, 1, 1, 1]] ⟨mkE 60 [(1, (.one (.ptr 0 0))), (3, (.one (.ptr 1 0))), (23, (.one (.slc (.int .i64) t23))), (24, (.one (.int .i64 t24))), (25, (.one (.int .i64 t25)))], [(.cells (enc cCommand o0)), (.cells [(.slf 64), (.osl 2)]), (.row (.int .u8) o2)]⟩
/-- skirmish/skirmishref04.Bool -/
noncomputable def ref04_Bool.f (b : Bool) : Option ByteArray := callX Tryz.prog cfg 69 [(.one (.bool b))] [] ⟨[.one (.ty .str)], 0⟩
noncomputable def ref34_Same.j0 (i : Int) (o0 : CommandT) (o1 : CommandT) : Option Bool := lim Tryz.prog cfg 70 ⟨[.one (.ty .bool)], 0⟩ [lpIn Tryz.prog 70 [1, 1, 0, 1, 0, 0], .blk 0, cdIn Tryz.prog 70 [1, 1, 1]] ⟨mkE 80 [(2, (.one (.ptr 0 0))), (3, (.one (.ptr 1 0))), (5, (.one (.int .i64 i)))], [(.cells (enc cCommand o0)), (.cells (enc cCommand o1))]⟩
/-- (*skirmish/command.reader).number -/
noncomputable def command_reader__number.f (o : (ByteArray × (Int × Int))) : Option (Int × (ByteArray × (Int × Int))) := callX Tryz.prog cfg 57 [(.one (.ptr 1 0))] [(.ghost [(.ptr 1 0)]), (.cells (enc (.pair .str (.pair (.int .i64) (.int .i64))) o))] ⟨[.one (.ty (.int .i64)), .agg (.cat (.ty .str) (.cat (.ty (.int .i64)) (.ty (.int .i64))))], 1⟩
/-- (*skirmish/command.reader).units -/
noncomputable def command_reader__units.f (o : (ByteArray × (Int × Int))) : Option ((List Int) × (ByteArray × (Int × Int))) := callX Tryz.prog cfg 58 [(.one (.ptr 1 0))] [(.ghost [(.ptr 1 0)]), (.cells (enc (.pair .str (.pair (.int .i64) (.int .i64))) o))] ⟨[.one (.ty (.slice (.int .i64))), .agg (.cat (.ty .str) (.cat (.ty (.int .i64)) (.ty (.int .i64))))], 1⟩
/-- (*skirmish/command.reader).name -/
noncomputable def command_reader__name.f (o : (ByteArray × (Int × Int))) : Option (ByteArray × (ByteArray × (Int × Int))) := callX Tryz.prog cfg 59 [(.one (.ptr 1 0))] [(.ghost [(.ptr 1 0)]), (.cells (enc (.pair .str (.pair (.int .i64) (.int .i64))) o))] ⟨[.one (.ty .str), .agg (.cat (.ty .str) (.cat (.ty (.int .i64)) (.ty (.int .i64))))], 1⟩
/-- (*skirmish/command.reader).queued -/
noncomputable def command_reader__queued.f (o : (ByteArray × (Int × Int))) : Option (Bool × (ByteArray × (Int × Int))) := callX Tryz.prog cfg 60 [(.one (.ptr 1 0))] [(.ghost [(.ptr 1 0)]), (.cells (enc (.pair .str (.pair (.int .i64) (.int .i64))) o))] ⟨[.one (.ty .bool), .agg (.cat (.ty .str) (.cat (.ty (.int .i64)) (.ty (.int .i64))))], 1⟩
/-- slices.ContainsFunc[[]skirmish/api.Command,skirmish/api.Command] -/
noncomputable def slices_ContainsFunc.f (s : (List CommandT)) (f : BatchT) : Option Bool := callX Tryz.prog cfg 61 [(.one (.slc cCommand s)), (.one (.fn 62 [(.rptr (enc cBatch f))]))] [] ⟨[.one (.ty .bool)], 0⟩
noncomputable def ref34_ints.j0 (s : ByteArray) (at' : Int) (n : Int) (i : Int) (o0 : (List Int)) : Option ((List Int) × (Int × Int)) := lim Tryz.prog cfg 64 ⟨[.one (.ty (.slice (.int .i64))), .one (.ty (.int .i64)), .one (.ty (.int .i64))], 0⟩ [lpIn Tryz.prog 64 [1, 1, 0, 1, 0, 0], .blk 0, cdIn Tryz.prog 64 [1, 1, 1]] ⟨mkE 36 [(0, (.one (.str s))), (1, (.one (.int .i64 at'))), (2, (.one (.int .i64 n))), (9, (.one (.osl 0))), (10, (.one (.int .i64 i)))], [(.row (.int .i64) o0)]⟩
noncomputable def ref34_Valid.j0 (t26 : Bool) (o0 : CommandT) : Option Int := lim Tryz.prog cfg 66 ⟨[.one (.ty (.int .i64))], 0⟩ [cdIn Tryz.prog 66 [1, 0, 1], cdIn Tryz.prog 66 [1, 1]] ⟨mkE 97 [(1, (.one (.ptr 0 0))), (26, (.one (.bool t26)))], [(.cells (enc cCommand o0))]⟩
/-- skirmish/skirmishref34.bare -/
noncomputable def ref34_bare.f (c : CommandT) : Option Bool := callX Tryz.prog cfg 82 [(.agg (enc cCommand c))] [] ⟨[.one (.ty .bool)], 0⟩
noncomputable def command_Encode.j1 (t43 : (Int × (Int × (Int × Int)))) (t44 : Int) (o0 : CommandT) (o2 : (List Int)) : Option ByteArray := lim Tryz.prog cfg 50 ⟨[.one (.ty .str)], 0⟩ [lpIn Tryz.prog 50 [1, 1, 1, 1, 0, 1, 0, 0], .blk 2, cdIn Tryz.prog 50 [1, 1, 1, 1, 1]] ⟨mkE 60 [(1, (.one (.ptr 0 0))), (3, (.one (.ptr 1 0))), (43, (.agg (enc (.pair (.int .i64) (.pair (.int .i64) (.pair (.int .i64) (.int .i64)))) t43))), (44, (.one (.int .i64 t44)))], [(.cells (enc cCommand o0)), (.cells [(.slf 64), (.osl 2)]), (.row (.int .u8) o2)]⟩
/-- (*skirmish/command.reader).next -/
noncomputable def command_reader__next.f (at' : Int) (e : Int) (o : (ByteArray × (Int × Int))) : Option (ByteArray × (Int × Int)) := callX Tryz.prog cfg 74 [(.one (.ptr 1 0)), (.one (.int .i64 at')), (.one (.int .i64 e))] [(.ghost [(.ptr 1 0)]), (.cells (enc (.pair .str (.pair (.int .i64) (.int .i64))) o))] ⟨[.agg (.cat (.ty .str) (.cat (.ty (.int .i64)) (.ty (.int .i64))))], 1⟩
noncomputable def command_reader__units.j0 (n : Int) (i : Int) (o1 : (ByteArray × (Int × Int))) (o2 : (List Int)) : Option ((List Int) × (ByteArray × (Int × Int))) := lim Tryz.prog cfg 58 ⟨[.one (.ty (.slice (.int .i64))), .agg (.cat (.ty .str) (.cat (.ty (.int .i64)) (.ty (.int .i64))))], 1⟩ [lpIn Tryz.prog 58 [1, 1, 1, 1, 1, 0, 1, 0, 0], .blk 0, cdIn Tryz.prog 58 [1, 1, 1, 1, 1, 1]] ⟨mkE 48 [(0, (.one (.ptr 1 0))), (3, (.one (.int .i64 n))), (6, (.one (.osl 2))), (7, (.one (.int .i64 i)))], [(.ghost [(.ptr 1 0)]), (.cells (enc (.pair .str (.pair (.int .i64) (.int .i64))) o1)), (.row (.int .i64) o2)]⟩
/-- skirmish/wire.TakeBool -/
noncomputable def wire_TakeBool.f (s : ByteArray) (at' : Int) : Option (Bool × (Int × Int)) := callX Tryz.prog cfg 75 [(.one (.str s)), (.one (.int .i64 at'))] [] ⟨[.one (.ty .bool), .one (.ty (.int .i64)), .one (.ty (.int .i64))], 0⟩
/-- slices.IndexFunc[[]skirmish/api.Command,skirmish/api.Command] -/
noncomputable def slices_IndexFunc_1.f (s : (List CommandT)) (f : BatchT) : Option Int := callX Tryz.prog cfg 76 [(.one (.slc cCommand s)), (.one (.fn 62 [(.rptr (enc cBatch f))]))] [] ⟨[.one (.ty (.int .i64))], 0⟩
noncomputable def ref34_Valid.j1 (most : Int) (o0 : CommandT) : Option Int := lim Tryz.prog cfg 66 ⟨[.one (.ty (.int .i64))], 0⟩ [cdIn Tryz.prog 66 [1, 1, 1, 1, 1]] ⟨mkE 97 [(1, (.one (.ptr 0 0))), (3, (.one (.int .i64 most)))], [(.cells (enc cCommand o0))]⟩
/-- skirmish/skirmishref34.Ordering -/
noncomputable def ref34_Ordering.f (kind : Int) : Option Bool := callX Tryz.prog cfg 83 [(.one (.int .i64 kind))] [] ⟨[.one (.ty .bool)], 0⟩
noncomputable def ref34_bare.j0 (units : Bool) (o0 : CommandT) : Option Bool := lim Tryz.prog cfg 82 ⟨[.one (.ty .bool)], 0⟩ [cdIn Tryz.prog 82 [1, 1]] ⟨mkE 70 [(1, (.one (.ptr 0 0))), (3, (.one (.bool units)))], [(.cells (enc cCommand o0))]⟩
/-- skirmish/skirmishref34.single -/
noncomputable def ref34_single.f (kind : Int) : Option Bool := callX Tryz.prog cfg 84 [(.one (.int .i64 kind))] [] ⟨[.one (.ty .bool)], 0⟩
/-- skirmish/wire.Bool -/
noncomputable def wire_Bool.f (b : Bool) : Option ByteArray := callX Tryz.prog cfg 68 [(.one (.bool b))] [] ⟨[.one (.ty .str)], 0⟩
noncomputable def slices_IndexFunc_1.j0 (s : (List CommandT)) (f : BatchT) (t7 : Int) (t8 : Int) : Option Int := lim Tryz.prog cfg 76 ⟨[.one (.ty (.int .i64))], 0⟩ [lpIn Tryz.prog 76 [1, 0, 1, 0, 0], .blk 0, cdIn Tryz.prog 76 [1, 1]] ⟨mkE 19 [(0, (.one (.slc cCommand s))), (1, (.one (.fn 62 [(.rptr (enc cBatch f))]))), (7, (.one (.int .i64 t7))), (8, (.one (.int .i64 t8)))], []⟩
/-- skirmish/skirmishref34.listed -/
noncomputable def ref34_listed.f (c : CommandT) : Option Bool := callX Tryz.prog cfg 85 [(.agg (enc cCommand c))] [] ⟨[.one (.ty .bool)], 0⟩
noncomputable def ref34_Valid.j2 (most : Int) (t34 : Bool) (o0 : CommandT) : Option Int := lim Tryz.prog cfg 66 ⟨[.one (.ty (.int .i64))], 0⟩ [cdIn Tryz.prog 66 [1, 1, 1, 1, 1, 0, 0, 1], .blk 0, cdIn Tryz.prog 66 [1, 1, 1, 1, 1, 1]] ⟨mkE 97 [(1, (.one (.ptr 0 0))), (3, (.one (.int .i64 most))), (34, (.one (.bool t34)))], [(.cells (enc cCommand o0))]⟩
/-- skirmish/skirmishref34.hasAt -/
noncomputable def ref34_hasAt.f (kind : Int) : Option Bool := callX Tryz.prog cfg 86 [(.one (.int .i64 kind))] [] ⟨[.one (.ty .bool)], 0⟩
/-- skirmish/skirmishref34.hasN -/
noncomputable def ref34_hasN.f (kind : Int) : Option Bool := callX Tryz.prog cfg 88 [(.one (.int .i64 kind))] [] ⟨[.one (.ty .bool)], 0⟩
/-- skirmish/skirmishref34.hasName -/
noncomputable def ref34_hasName.f (kind : Int) : Option Bool := callX Tryz.prog cfg 89 [(.one (.int .i64 kind))] [] ⟨[.one (.ty .bool)], 0⟩
noncomputable def ref34_bare.j1 (t2 : Bool) : Option Bool := lim Tryz.prog cfg 82 ⟨[.one (.ty .bool)], 0⟩ [cdIn Tryz.prog 82 [1, 1, 1]] ⟨mkE 70 [(2, (.one (.bool t2)))], []⟩
/-- skirmish/input.Valid$1 -/
noncomputable def input_Valid_1.f (c : CommandT) (a1 : BatchT) : Option Bool := callX Tryz.prog cfg 62 [(.agg (enc cCommand c)), (.one (.rptr (enc cBatch a1)))] [] ⟨[.one (.ty .bool)], 0⟩
noncomputable def ref34_listed.j0 (i : Int) (o0 : CommandT) : Option Bool := lim Tryz.prog cfg 85 ⟨[.one (.ty .bool)], 0⟩ [lpIn Tryz.prog 85 [1, 0, 1, 0, 0], .blk 0, cdIn Tryz.prog 85 [1, 1]] ⟨mkE 59 [(1, (.one (.ptr 0 0))), (3, (.one (.int .i64 i)))], [(.cells (enc cCommand o0))]⟩
/-- skirmish/skirmishref02.Valid -/
noncomputable def ref02_Valid.f (a : (Int × Int)) : Option Bool := callX Tryz.prog cfg 87 [(.agg (enc (.pair (.int .i64) (.int .i64)) a))] [] ⟨[.one (.ty .bool)], 0⟩
noncomputable def ref34_Valid.j3 (most : Int) (t48 : Bool) (o0 : CommandT) : Option Int := lim Tryz.prog cfg 66 ⟨[.one (.ty (.int .i64))], 0⟩ [cdIn Tryz.prog 66 [1, 1, 1, 1, 1, 0, 0, 1, 1, 1], .blk 0, cdIn Tryz.prog 66 [1, 1, 1, 1, 1, 1]] ⟨mkE 97 [(1, (.one (.ptr 0 0))), (3, (.one (.int .i64 most))), (48, (.one (.bool t48)))], [(.cells (enc cCommand o0))]⟩
/-- skirmish/command.Valid -/
noncomputable def command_Valid.f (c : CommandT) : Option Int := callX Tryz.prog cfg 63 [(.agg (enc cCommand c))] [] ⟨[.one (.ty (.int .i64))], 0⟩
/-- skirmish/skirmishref02.NearVec -/
noncomputable def ref02_NearVec.f (a : (Int × Int)) : Option (Int × Int) := callX Tryz.prog cfg 103 [(.agg (enc (.pair (.int .i64) (.int .i64)) a))] [] ⟨[.agg (.ty (.pair (.int .i64) (.int .i64)))], 0⟩
noncomputable def ref34_Valid.j4 (most : Int) (t58 : Bool) (o0 : CommandT) : Option Int := lim Tryz.prog cfg 66 ⟨[.one (.ty (.int .i64))], 0⟩ [cdIn Tryz.prog 66 [1, 1, 1, 1, 1, 0, 0, 1, 1, 1, 1, 1], .blk 0, cdIn Tryz.prog 66 [1, 1, 1, 1, 1, 1]] ⟨mkE 97 [(1, (.one (.ptr 0 0))), (3, (.one (.int .i64 most))), (58, (.one (.bool t58)))], [(.cells (enc cCommand o0))]⟩
noncomputable def command_Valid.j0 (t27 : Bool) (o0 : CommandT) : Option Int := lim Tryz.prog cfg 63 ⟨[.one (.ty (.int .i64))], 0⟩ [cdIn Tryz.prog 63 [1, 0, 1], cdIn Tryz.prog 63 [1, 1]] ⟨mkE 93 [(1, (.one (.ptr 0 0))), (27, (.one (.bool t27)))], [(.cells (enc cCommand o0))]⟩
/-- skirmish/command.unused -/
noncomputable def command_unused.f (c : CommandT) : Option Bool := callX Tryz.prog cfg 77 [(.agg (enc cCommand c))] [] ⟨[.one (.ty .bool)], 0⟩
/-- skirmish/skirmishref02.Near -/
noncomputable def ref02_Near.f (n : Int) : Option Int := callX Tryz.prog cfg 111 [(.one (.int .i64 n))] [] ⟨[.one (.ty (.int .i64))], 0⟩
noncomputable def ref34_Valid.j5 (t72 : Bool) (o0 : CommandT) : Option Int := lim Tryz.prog cfg 66 ⟨[.one (.ty (.int .i64))], 0⟩ [cdIn Tryz.prog 66 [1, 1, 1, 1, 1, 0, 0, 1, 1, 1, 1, 1, 1, 1], .blk 0, cdIn Tryz.prog 66 [1, 1, 1, 1, 1, 1]] ⟨mkE 97 [(1, (.one (.ptr 0 0))), (72, (.one (.bool t72)))], [(.cells (enc cCommand o0))]⟩
/-- skirmish/command.fields -/
noncomputable def command_fields.f (kind : Int) : Option Int := callX Tryz.prog cfg 78 [(.one (.int .i64 kind))] [] ⟨[.one (.ty (.int .i64))], 0⟩
noncomputable def command_Valid.j1 (f : Int) (most : Int) (o0 : CommandT) : Option Int := lim Tryz.prog cfg 63 ⟨[.one (.ty (.int .i64))], 0⟩ [cdIn Tryz.prog 63 [1, 1, 1, 1, 1, 1]] ⟨mkE 93 [(1, (.one (.ptr 0 0))), (3, (.one (.int .i64 f))), (4, (.one (.int .i64 most)))], [(.cells (enc cCommand o0))]⟩
noncomputable def command_unused.j0 (t2 : Bool) : Option Bool := lim Tryz.prog cfg 77 ⟨[.one (.ty .bool)], 0⟩ [cdIn Tryz.prog 77 [1, 1, 1]] ⟨mkE 67 [(2, (.one (.bool t2)))], []⟩
/-- skirmish/skirmishref09.Name -/
noncomputable def ref09_Name.f (s : ByteArray) : Option Bool := callX Tryz.prog cfg 90 [(.one (.str s))] [] ⟨[.one (.ty .bool)], 0⟩
noncomputable def ref34_Valid.j6 (t87 : Bool) : Option Int := lim Tryz.prog cfg 66 ⟨[.one (.ty (.int .i64))], 0⟩ [cdIn Tryz.prog 66 [1, 1, 1, 1, 1, 0, 0, 1, 1, 1, 1, 1, 1, 1, 1, 1], .blk 0, cdIn Tryz.prog 66 [1, 1, 1, 1, 1, 1]] ⟨mkE 97 [(87, (.one (.bool t87)))], []⟩
/-- skirmish/command.ids -/
noncomputable def command_ids.f (c : CommandT) : Option Bool := callX Tryz.prog cfg 79 [(.agg (enc cCommand c))] [] ⟨[.one (.ty .bool)], 0⟩
noncomputable def command_Valid.j2 (f : Int) (most : Int) (t38 : Bool) (o0 : CommandT) : Option Int := lim Tryz.prog cfg 63 ⟨[.one (.ty (.int .i64))], 0⟩ [cdIn Tryz.prog 63 [1, 1, 1, 1, 1, 1, 0, 0, 0, 1], cdIn Tryz.prog 63 [1, 1, 1, 1, 1, 1, 0, 0, 1], .blk 0, cdIn Tryz.prog 63 [1, 1, 1, 1, 1, 1, 1]] ⟨mkE 93 [(1, (.one (.ptr 0 0))), (3, (.one (.int .i64 f))), (4, (.one (.int .i64 most))), (38, (.one (.bool t38)))], [(.cells (enc cCommand o0))]⟩
noncomputable def ref09_Name.j0 (s : ByteArray) (i : Int) : Option Bool := lim Tryz.prog cfg 90 ⟨[.one (.ty .bool)], 0⟩ [lpIn Tryz.prog 90 [1, 1, 0, 1, 0, 0], .blk 0, cdIn Tryz.prog 90 [1, 1, 1]] ⟨mkE 52 [(0, (.one (.str s))), (3, (.one (.int .i64 i)))], []⟩
noncomputable def command_ids.j0 (t7 : (List Int)) (t8 : Int) (t9 : Int) (o0 : CommandT) : Option Bool := lim Tryz.prog cfg 79 ⟨[.one (.ty .bool)], 0⟩ [lpIn Tryz.prog 79 [1, 0, 1, 0, 0], .blk 0, cdIn Tryz.prog 79 [1, 1]] ⟨mkE 62 [(1, (.one (.ptr 0 0))), (7, (.one (.slc (.int .i64) t7))), (8, (.one (.int .i64 t8))), (9, (.one (.int .i64 t9)))], [(.cells (enc cCommand o0))]⟩
noncomputable def command_Valid.j3 (f : Int) (t38 : Bool) (o0 : CommandT) : Option Int := lim Tryz.prog cfg 63 ⟨[.one (.ty (.int .i64))], 0⟩ [cdIn Tryz.prog 63 [1, 1, 1, 1, 1, 1, 0, 0, 1], .blk 0, cdIn Tryz.prog 63 [1, 1, 1, 1, 1, 1, 1]] ⟨mkE 93 [(1, (.one (.ptr 0 0))), (3, (.one (.int .i64 f))), (38, (.one (.bool t38)))], [(.cells (enc cCommand o0))]⟩
/-- skirmish/vec.Valid -/
noncomputable def vec_Valid.f (a : (Int × Int)) : Option Bool := callX Tryz.prog cfg 80 [(.agg (enc (.pair (.int .i64) (.int .i64)) a))] [] ⟨[.one (.ty .bool)], 0⟩
noncomputable def command_Valid.j4 (f : Int) (most : Int) (t38 : Bool) (o0 : CommandT) : Option Int := lim Tryz.prog cfg 63 ⟨[.one (.ty (.int .i64))], 0⟩ [cdIn Tryz.prog 63 [1, 1, 1, 1, 1, 1, 0, 0, 0, 1, 1, 1], .jn, cdIn Tryz.prog 63 [1, 1, 1, 1, 1, 1, 0, 0, 1], .blk 0, cdIn Tryz.prog 63 [1, 1, 1, 1, 1, 1, 1]] ⟨mkE 93 [(1, (.one (.ptr 0 0))), (3, (.one (.int .i64 f))), (4, (.one (.int .i64 most))), (38, (.one (.bool t38)))], [(.cells (enc cCommand o0))]⟩
/-- skirmish/rules.Name -/
noncomputable def rules_Name.f (s : ByteArray) : Option Bool := callX Tryz.prog cfg 81 [(.one (.str s))] [] ⟨[.one (.ty .bool)], 0⟩
noncomputable def command_Valid.j5 (t83 : Bool) : Option Int := lim Tryz.prog cfg 63 ⟨[.one (.ty (.int .i64))], 0⟩ [cdIn Tryz.prog 63 [1, 1, 1, 1, 1, 1, 0, 0, 1, 1, 1], .blk 0, cdIn Tryz.prog 63 [1, 1, 1, 1, 1, 1, 1]] ⟨mkE 93 [(83, (.one (.bool t83)))], []⟩
/-- skirmish/vec.nearest -/
noncomputable def vec_nearest.f (a : (Int × Int)) : Option (Int × Int) := callX Tryz.prog cfg 102 [(.agg (enc (.pair (.int .i64) (.int .i64)) a))] [] ⟨[.agg (.ty (.pair (.int .i64) (.int .i64)))], 0⟩
noncomputable def command_Valid.j6 (f : Int) (t38 : Bool) (o0 : CommandT) : Option Int := lim Tryz.prog cfg 63 ⟨[.one (.ty (.int .i64))], 0⟩ [.jn, cdIn Tryz.prog 63 [1, 1, 1, 1, 1, 1, 0, 0, 1], .blk 0, cdIn Tryz.prog 63 [1, 1, 1, 1, 1, 1, 1]] ⟨mkE 93 [(1, (.one (.ptr 0 0))), (3, (.one (.int .i64 f))), (38, (.one (.bool t38)))], [(.cells (enc cCommand o0))]⟩
noncomputable def command_Valid.j7 (f : Int) (most : Int) (t38 : Bool) (o0 : CommandT) : Option Int := lim Tryz.prog cfg 63 ⟨[.one (.ty (.int .i64))], 0⟩ [cdIn Tryz.prog 63 [1, 1, 1, 1, 1, 1, 0, 0, 0, 1, 1, 1, 1, 1], .jn, .jn, cdIn Tryz.prog 63 [1, 1, 1, 1, 1, 1, 0, 0, 1], .blk 0, cdIn Tryz.prog 63 [1, 1, 1, 1, 1, 1, 1]] ⟨mkE 93 [(1, (.one (.ptr 0 0))), (3, (.one (.int .i64 f))), (4, (.one (.int .i64 most))), (38, (.one (.bool t38)))], [(.cells (enc cCommand o0))]⟩
noncomputable def rules_Name.j0 (s : ByteArray) (t23 : Int) (t24 : Int) : Option Bool := lim Tryz.prog cfg 81 ⟨[.one (.ty .bool)], 0⟩ [lpIn Tryz.prog 81 [1, 1, 0, 1, 0, 0], .blk 0, cdIn Tryz.prog 81 [1, 1, 1]] ⟨mkE 49 [(0, (.one (.str s))), (23, (.one (.int .i64 t23))), (24, (.one (.int .i64 t24)))], []⟩
/-- skirmish/vec.near -/
noncomputable def vec_near.f (n : Int) : Option Int := callX Tryz.prog cfg 110 [(.one (.int .i64 n))] [] ⟨[.one (.ty (.int .i64))], 0⟩
noncomputable def command_Valid.j8 (f : Int) (t38 : Bool) (o0 : CommandT) : Option Int := lim Tryz.prog cfg 63 ⟨[.one (.ty (.int .i64))], 0⟩ [.jn, .jn, cdIn Tryz.prog 63 [1, 1, 1, 1, 1, 1, 0, 0, 1], .blk 0, cdIn Tryz.prog 63 [1, 1, 1, 1, 1, 1, 1]] ⟨mkE 93 [(1, (.one (.ptr 0 0))), (3, (.one (.int .i64 f))), (38, (.one (.bool t38)))], [(.cells (enc cCommand o0))]⟩
noncomputable def command_Valid.j9 (f : Int) (t38 : Bool) (o0 : CommandT) : Option Int := lim Tryz.prog cfg 63 ⟨[.one (.ty (.int .i64))], 0⟩ [.jn, .jn, .jn, cdIn Tryz.prog 63 [1, 1, 1, 1, 1, 1, 0, 0, 1], .blk 0, cdIn Tryz.prog 63 [1, 1, 1, 1, 1, 1, 1]] ⟨mkE 93 [(1, (.one (.ptr 0 0))), (3, (.one (.int .i64 f))), (38, (.one (.bool t38)))], [(.cells (enc cCommand o0))]⟩
/-- skirmish/num.Clamp -/
noncomputable def num_Clamp.f (n : Int) (lo' : Int) (hi : Int) : Option Int := callX Tryz.prog cfg 113 [(.one (.int .i64 n)), (.one (.int .i64 lo')), (.one (.int .i64 hi))] [] ⟨[.one (.ty (.int .i64))], 0⟩
end Go.Proofs.YtpiejdjanhnbeaaGreat
