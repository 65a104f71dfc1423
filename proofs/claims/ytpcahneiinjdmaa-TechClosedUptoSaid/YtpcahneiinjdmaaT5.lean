/- Short names of the program's struct types and of their codes: printed by a program. -/
import Derived.Test.YtpcahneiinjdmaaProg
import Derived.Test.YtpcahneiinjdmaaT1
import Derived.Test.YtpcahneiinjdmaaT4
namespace Go.Proofs.Ytpcahneiinjdmaa
open Go Go.Sk
abbrev OrderT : Type := (Int × ((Int × Int) × (Int × ByteArray)))
abbrev cOrder : Ty := (.pair (.int .i64) (.pair (.pair (.int .i64) (.int .i64)) (.pair (.int .i64) .str)))
abbrev MapT : Type := (Int × (Int × (List (Int × (Int × Int)))))
abbrev cMap : Ty := (.pair (.int .i64) (.pair (.int .i64) (.slice (.pair (.int .i64) (.pair (.int .i64) (.int .i64))))))
abbrev WeaponT : Type := (ByteArray × (Int × (Int × (Int × (Int × Int)))))
abbrev cWeapon : Ty := (.pair .str (.pair (.int .i64) (.pair (.int .i64) (.pair (.int .i64) (.pair (.int .i64) (.int .i64))))))
abbrev SightingT : Type := (Int × (Int × (ByteArray × ((Int × Int) × Int))))
abbrev cSighting : Ty := (.pair (.int .i64) (.pair (.int .i64) (.pair .str (.pair (.pair (.int .i64) (.int .i64)) (.int .i64)))))
abbrev PlayerT : Type := (Int × (Int × (Int × (Int × ((List ByteArray) × Bool)))))
abbrev cPlayer : Ty := (.pair (.int .i64) (.pair (.int .i64) (.pair (.int .i64) (.pair (.int .i64) (.pair (.slice .str) .bool)))))
abbrev TechT : Type := (ByteArray × ((List ByteArray) × (Int × (Int × (Int × (ByteArray × (Int × Int)))))))
abbrev cTech : Ty := (.pair .str (.pair (.slice .str) (.pair (.int .i64) (.pair (.int .i64) (.pair (.int .i64) (.pair .str (.pair (.int .i64) (.int .i64))))))))
abbrev MemoryT : Type := (Int × ((List Bool) × (List SightingT)))
abbrev cMemory : Ty := (.pair (.int .i64) (.pair (.slice .bool) (.slice cSighting)))
abbrev ShotT : Type := (Int × (Int × (Int × (ByteArray × (Int × ((Int × Int) × (Int × Int)))))))
abbrev cShot : Ty := (.pair (.int .i64) (.pair (.int .i64) (.pair (.int .i64) (.pair .str (.pair (.int .i64) (.pair (.pair (.int .i64) (.int .i64)) (.pair (.int .i64) (.int .i64))))))))
abbrev ScriptT : Type := (Int × (((List (ByteArray × (Int × Int))) × (List (Int × (Int × (Int × ByteArray))))) × (List (Int × (Int × (Int × ((List Int) × (List Int))))))))
abbrev cScript : Ty := (.pair (.int .i64) (.pair (.pair (.slice (.pair .str (.pair (.int .i64) (.int .i64)))) (.slice (.pair (.int .i64) (.pair (.int .i64) (.pair (.int .i64) .str))))) (.slice (.pair (.int .i64) (.pair (.int .i64) (.pair (.int .i64) (.pair (.slice (.int .i64)) (.slice (.int .i64)))))))))
abbrev EntityT : Type := (Int × (Int × (ByteArray × ((Int × Int) × (Int × (Int × (Int × (Int × (Int × ((List OrderT) × (List (Int × (Int × ByteArray)))))))))))))
abbrev cEntity : Ty := (.pair (.int .i64) (.pair (.int .i64) (.pair .str (.pair (.pair (.int .i64) (.int .i64)) (.pair (.int .i64) (.pair (.int .i64) (.pair (.int .i64) (.pair (.int .i64) (.pair (.int .i64) (.pair (.slice cOrder) (.slice (.pair (.int .i64) (.pair (.int .i64) .str)))))))))))))
abbrev UnitTypeT : Type := (ByteArray × (Bool × (Bool × (Int × (Int × (Int × (Int × (Int × (Int × (Int × (Int × (Int × (ByteArray × (Int × (Int × (Int × ((List ByteArray) × ((List ByteArray) × (List ByteArray)))))))))))))))))))
abbrev cUnitType : Ty := (.pair .str (.pair .bool (.pair .bool (.pair (.int .i64) (.pair (.int .i64) (.pair (.int .i64) (.pair (.int .i64) (.pair (.int .i64) (.pair (.int .i64) (.pair (.int .i64) (.pair (.int .i64) (.pair (.int .i64) (.pair .str (.pair (.int .i64) (.pair (.int .i64) (.pair (.int .i64) (.pair (.slice .str) (.pair (.slice .str) (.slice .str)))))))))))))))))))
abbrev RulesT : Type := ((List UnitTypeT) × ((List WeaponT) × (List TechT)))
abbrev cRules : Ty := (.pair (.slice cUnitType) (.pair (.slice cWeapon) (.slice cTech)))
abbrev GameT : Type := (Int × (Int × (Int × (Bool × (Int × (RulesT × (MapT × ((List PlayerT) × ((List EntityT) × ((List ShotT) × ((List MemoryT) × (List ScriptT))))))))))))
abbrev cGame : Ty := (.pair (.int .i64) (.pair (.int .i64) (.pair (.int .i64) (.pair .bool (.pair (.int .u64) (.pair cRules (.pair cMap (.pair (.slice cPlayer) (.pair (.slice cEntity) (.pair (.slice cShot) (.pair (.slice cMemory) (.slice cScript))))))))))))
end Go.Proofs.Ytpcahneiinjdmaa

/- The functions of the program: which hand back new slices, which write what they are handed, what is told. -/
namespace Go.Proofs.Ytpcahneiinjdmaa
open Go Go.Sk
def ownB (f : FuncId) : Bool := match f with | 11 => true | 13 => true | 16 => true | 26 => true | 27 => true | 32 => true | 37 => true | 46 => true | 56 => true | 57 => true | _ => false
def refB (f : FuncId) : RefMode := match f with | 26 => .keep | 49 => .gone | 71 => .apart | _ => .pure
def flatB (f : FuncId) : Bool := match f with | 51 => false | _ => true
def primB (f : FuncId) (args : List V) (mem : List Sk.Obj) (ρ : RD) : Option ρ.El := match f with
  | 26 => keysPrim args mem ρ
  | 32 => clonePrim .str 16 args mem ρ
  | 46 => clonePrim cPlayer 64 args mem ρ
  | 49 => insPrim .str 16 args mem ρ
  | _ => none
def cfg0 : Cfg := { own := ownB, ref := refB, flat := flatB }
def cfg : Cfg := { own := ownB, ref := refB, flat := flatB, prim := primB }
end Go.Proofs.Ytpcahneiinjdmaa

/- The functions, as limits of the evaluator: printed by a program. -/
set_option linter.unusedVariables false
namespace Go.Proofs.Ytpcahneiinjdmaa
open Go Go.Sk

/-- skirmish/skirmishlaw29.TechHas -/
noncomputable def law29_TechHas.f (g : GameT) (player : Int) (needs : (List ByteArray)) : Option Bool := callX Try.prog cfg 3 [(.agg (enc cGame g)), (.one (.int .i64 player)), (.one (.slc .str needs))] [] ⟨[.one (.ty .bool)], 0⟩
/-- skirmish/skirmishlaw29.TechClosures -/
noncomputable def law29_TechClosures.f (r : RulesT) (name : ByteArray) : Option Bool := callX Try.prog cfg 4 [(.agg (enc cRules r)), (.one (.str name))] [] ⟨[.one (.ty .bool)], 0⟩
/-- skirmish/skirmishlaw29.TechClosed -/
noncomputable def law29_TechClosed.f (r : RulesT) (name : ByteArray) : Option Bool := callX Try.prog cfg 5 [(.agg (enc cRules r)), (.one (.str name))] [] ⟨[.one (.ty .bool)], 0⟩
/-- skirmish/skirmishlaw29.TechLearns -/
noncomputable def law29_TechLearns.f (g : GameT) (player : Int) (name : ByteArray) : Option Bool := callX Try.prog cfg 6 [(.agg (enc cGame g)), (.one (.int .i64 player)), (.one (.str name))] [] ⟨[.one (.ty .bool)], 0⟩
/-- skirmish/skirmishlaw29.TechKeeps -/
noncomputable def law29_TechKeeps.f (g : GameT) (player : Int) (name : ByteArray) : Option Bool := callX Try.prog cfg 7 [(.agg (enc cGame g)), (.one (.int .i64 player)), (.one (.str name))] [] ⟨[.one (.ty .bool)], 0⟩
/-- skirmish/skirmishlaw29.small -/
noncomputable def law29_small.f (g : GameT) : Option Bool := callX Try.prog cfg 8 [(.agg (enc cGame g))] [] ⟨[.one (.ty .bool)], 0⟩
/-- skirmish/skirmishlaw29.alive -/
noncomputable def law29_alive.f  : Option Bool := callX Try.prog cfg 9 [] [] ⟨[.one (.ty .bool)], 0⟩
/-- skirmish/tech.Have -/
noncomputable def tech_Have.f (g : GameT) (player : Int) : Option (List ByteArray) := callX Try.prog cfg 11 [(.agg (enc cGame g)), (.one (.int .i64 player))] [] ⟨[.one (.own .str)], 0⟩
/-- skirmish/skirmishref29.Have -/
noncomputable def ref29_Have.f (g : GameT) (player : Int) : Option (List ByteArray) := callX Try.prog cfg 12 [(.agg (enc cGame g)), (.one (.int .i64 player))] [] ⟨[.one (.ty (.slice .str))], 0⟩
/-- skirmish/skirmishref29.SameTexts -/
noncomputable def ref29_SameTexts.f (a : (List ByteArray)) (b : (List ByteArray)) : Option Bool := callX Try.prog cfg 10 [(.one (.slc .str a)), (.one (.slc .str b))] [] ⟨[.one (.ty .bool)], 0⟩
/-- skirmish/tech.Missing -/
noncomputable def tech_Missing.f (g : GameT) (player : Int) (needs : (List ByteArray)) : Option (List ByteArray) := callX Try.prog cfg 13 [(.agg (enc cGame g)), (.one (.int .i64 player)), (.one (.slc .str needs))] [] ⟨[.one (.own .str)], 0⟩
/-- skirmish/skirmishref29.Missing -/
noncomputable def ref29_Missing.f (g : GameT) (player : Int) (needs : (List ByteArray)) : Option (List ByteArray) := callX Try.prog cfg 14 [(.agg (enc cGame g)), (.one (.int .i64 player)), (.one (.slc .str needs))] [] ⟨[.one (.ty (.slice .str))], 0⟩
/-- skirmish/skirmishlaw29.little -/
noncomputable def law29_little.f (r : RulesT) : Option Bool := callX Try.prog cfg 15 [(.agg (enc cRules r))] [] ⟨[.one (.ty .bool)], 0⟩
/-- skirmish/tech.Closure -/
noncomputable def tech_Closure.f (r : RulesT) (name : ByteArray) : Option ((List ByteArray) × Int) := callX Try.prog cfg 16 [(.agg (enc cRules r)), (.one (.str name))] [] ⟨[.one (.own .str), .one (.ty (.int .i64))], 0⟩
/-- skirmish/skirmishref29.Closure -/
noncomputable def ref29_Closure.f (r : RulesT) (name : ByteArray) : Option ((List ByteArray) × Int) := callX Try.prog cfg 17 [(.agg (enc cRules r)), (.one (.str name))] [] ⟨[.one (.ty (.slice .str)), .one (.ty (.int .i64))], 0⟩
/-- skirmish/skirmishref29.Needs -/
noncomputable def ref29_Needs.f (r : RulesT) (name : ByteArray) : Option ((List ByteArray) × Bool) := callX Try.prog cfg 18 [(.agg (enc cRules r)), (.one (.str name))] [] ⟨[.one (.ty (.slice .str)), .one (.ty .bool)], 0⟩
noncomputable def law29_TechClosed.j0 (name : ByteArray) (direct : (List ByteArray)) (t40 : Int) (t41 : Int) (o0 : RulesT) (o1 : (List ByteArray)) : Option Bool := lim Try.prog cfg 5 ⟨[.one (.ty .bool)], 0⟩ [lpIn Try.prog 5 [1, 1, 1, 1, 1, 0, 1, 0, 0], .blk 0, cdIn Try.prog 5 [1, 1, 1, 1, 1, 1]] ⟨mkE 109 [(1, (.one (.str name))), (2, (.one (.ptr 0 0))), (5, (.one (.osl 1))), (7, (.one (.slc .str direct))), (40, (.one (.int .i64 t40))), (41, (.one (.int .i64 t41)))], [(.cells (enc cRules o0)), (.row .str o1)]⟩
/-- skirmish/tech.Learn -/
noncomputable def tech_Learn.f (g : GameT) (player : Int) (name : ByteArray) : Option (GameT × Int) := callX Try.prog cfg 21 [(.agg (enc cGame g)), (.one (.int .i64 player)), (.one (.str name))] [] ⟨[.agg (.ty cGame), .one (.ty (.int .i64))], 0⟩
/-- skirmish/skirmishref29.Learn -/
noncomputable def ref29_Learn.f (g : GameT) (player : Int) (name : ByteArray) : Option (GameT × Int) := callX Try.prog cfg 22 [(.agg (enc cGame g)), (.one (.int .i64 player)), (.one (.str name))] [] ⟨[.agg (.ty cGame), .one (.ty (.int .i64))], 0⟩
/-- skirmish/skirmishref29.SamePlayers -/
noncomputable def ref29_SamePlayers.f (a : (List PlayerT)) (b : (List PlayerT)) : Option Bool := callX Try.prog cfg 23 [(.one (.slc cPlayer a)), (.one (.slc cPlayer b))] [] ⟨[.one (.ty .bool)], 0⟩
/-- skirmish/skirmishref09.Same -/
noncomputable def ref09_Same.f (a : RulesT) (b : RulesT) : Option Bool := callX Try.prog cfg 24 [(.agg (enc cRules a)), (.agg (enc cRules b))] [] ⟨[.one (.ty .bool)], 0⟩
/-- skirmish/skirmishref29.Has -/
noncomputable def ref29_Has.f (l : (List ByteArray)) (s : ByteArray) : Option Bool := callX Try.prog cfg 19 [(.one (.slc .str l)), (.one (.str s))] [] ⟨[.one (.ty .bool)], 0⟩
noncomputable def law29_TechKeeps.j0 (player : Int) (name : ByteArray) (t52 : Int) (t53 : Int) (o0 : GameT) (o1 : GameT) (o2 : (List ByteArray)) (o3 : (List ByteArray)) : Option Bool := lim Try.prog cfg 7 ⟨[.one (.ty .bool)], 0⟩ [lpIn Try.prog 7 [1, 1, 1, 1, 1, 1, 0, 1, 0, 0], .blk 0, cdIn Try.prog 7 [1, 1, 1, 1, 1, 1, 1]] ⟨mkE 126 [(1, (.one (.int .i64 player))), (2, (.one (.str name))), (3, (.one (.ptr 0 0))), (7, (.one (.ptr 1 0))), (9, (.one (.osl 2))), (10, (.one (.osl 3))), (52, (.one (.int .i64 t52))), (53, (.one (.int .i64 t53)))], [(.cells (enc cGame o0)), (.cells (enc cGame o1)), (.row .str o2), (.row .str o3)]⟩
noncomputable def law29_small.j0 (t6 : Int) (t7 : Int) (o0 : GameT) : Option Bool := lim Try.prog cfg 8 ⟨[.one (.ty .bool)], 0⟩ [lpIn Try.prog 8 [1, 0, 1, 0, 0], .blk 0, cdIn Try.prog 8 [1, 1]] ⟨mkE 34 [(1, (.one (.ptr 0 0))), (6, (.one (.int .i64 t6))), (7, (.one (.int .i64 t7)))], [(.cells (enc cGame o0))]⟩
/-- skirmish/skirmishlaw29.game -/
noncomputable def law29_game.f  : Option GameT := callX Try.prog cfg 25 [] [] ⟨[.agg (.ty cGame)], 0⟩
/-- skirmish/tech.have -/
noncomputable def tech_have.f (g : GameT) (player : Int) : Option (List (ByteArray × Bool)) := callX Try.prog cfg 27 [(.agg (enc cGame g)), (.one (.int .i64 player))] [] ⟨[.one (.map .str .bool false true)], 0⟩
/-- skirmish/tech.sorted -/
noncomputable def tech_sorted.f (o : (List (ByteArray × Bool))) : Option ((List ByteArray) × (List (ByteArray × Bool))) := callX Try.prog cfg 26 [(.one (.osl 1))] [(.ghost [(.osl 1)]), (.map .str .bool false o true)] ⟨[.one (.own .str), .one (.map .str .bool false true)], 1⟩
noncomputable def ref29_Have.j0 (player : Int) (i : Int) (o0 : GameT) (o1 : (List ByteArray)) : Option (List ByteArray) := lim Try.prog cfg 12 ⟨[.one (.ty (.slice .str))], 0⟩ [lpIn Try.prog 12 [1, 1, 0, 1, 0, 0], .blk 0, cdIn Try.prog 12 [1, 1, 1]] ⟨mkE 74 [(1, (.one (.int .i64 player))), (2, (.one (.ptr 0 0))), (5, (.one (.osl 1))), (6, (.one (.int .i64 i)))], [(.cells (enc cGame o0)), (.row .str o1)]⟩
noncomputable def ref29_SameTexts.j0 (a : (List ByteArray)) (b : (List ByteArray)) (i : Int) : Option Bool := lim Try.prog cfg 10 ⟨[.one (.ty .bool)], 0⟩ [lpIn Try.prog 10 [1, 1, 0, 1, 0, 0], .blk 0, cdIn Try.prog 10 [1, 1, 1]] ⟨mkE 26 [(0, (.one (.slc .str a))), (1, (.one (.slc .str b))), (5, (.one (.int .i64 i)))], []⟩
noncomputable def tech_Missing.j0 (t14 : (List ByteArray)) (t15 : Int) (t16 : Int) (o0 : (List (ByteArray × Bool))) (o1 : (List ByteArray)) : Option (List ByteArray) := lim Try.prog cfg 13 ⟨[.one (.own .str)], 0⟩ [lpIn Try.prog 13 [1, 1, 1, 0, 1, 0, 0], .blk 0, cdIn Try.prog 13 [1, 1, 1, 1]] ⟨mkE 30 [(7, (.one (.osl 0))), (8, (.one (.osl 1))), (14, (.one (.slc .str t14))), (15, (.one (.int .i64 t15))), (16, (.one (.int .i64 t16)))], [(.map .str .bool false o0 true), (.row .str o1)]⟩
noncomputable def ref29_Missing.j0 (needs : (List ByteArray)) (have' : (List ByteArray)) (i : Int) (o0 : (List ByteArray)) : Option (List ByteArray) := lim Try.prog cfg 14 ⟨[.one (.ty (.slice .str))], 0⟩ [lpIn Try.prog 14 [1, 1, 1, 0, 1, 0, 0], .blk 0, cdIn Try.prog 14 [1, 1, 1, 1]] ⟨mkE 34 [(2, (.one (.slc .str needs))), (7, (.one (.slc .str have'))), (8, (.one (.osl 0))), (9, (.one (.int .i64 i)))], [(.row .str o0)]⟩
/-- skirmish/tech.needs -/
noncomputable def tech_needs.f (r : RulesT) (name : ByteArray) : Option ((List ByteArray) × Bool) := callX Try.prog cfg 31 [(.agg (enc cRules r)), (.one (.str name))] [] ⟨[.one (.ty (.slice .str)), .one (.ty .bool)], 0⟩
noncomputable def tech_Closure.j0 (waiting : (List ByteArray)) (o0 : RulesT) (o1 : (List (ByteArray × Bool))) : Option ((List ByteArray) × Int) := lim Try.prog cfg 16 ⟨[.one (.own .str), .one (.ty (.int .i64))], 0⟩ [lpIn Try.prog 16 [1, 1, 1, 1, 0, 0, 0], .blk 0, cdIn Try.prog 16 [1, 1, 1, 1, 1]] ⟨mkE 46 [(2, (.one (.ptr 0 0))), (6, (.one (.slc .str waiting))), (8, (.one (.osl 1)))], [(.cells (enc cRules o0)), (.map .str .bool false o1 true)]⟩
noncomputable def ref29_Closure.j0 (l : (List ByteArray)) (i : Int) (o0 : RulesT) (o1 : (List ByteArray)) : Option ((List ByteArray) × Int) := lim Try.prog cfg 17 ⟨[.one (.ty (.slice .str)), .one (.ty (.int .i64))], 0⟩ [lpIn Try.prog 17 [1, 1, 1, 1, 0, 1, 0, 0], .blk 0, cdIn Try.prog 17 [1, 1, 1, 1, 1]] ⟨mkE 71 [(2, (.one (.ptr 0 0))), (6, (.one (.slc .str l))), (8, (.one (.osl 1))), (9, (.one (.int .i64 i)))], [(.cells (enc cRules o0)), (.row .str o1)]⟩
/-- skirmish/skirmishref09.Unit -/
noncomputable def ref09_Unit.f (r : RulesT) (name : ByteArray) : Option (UnitTypeT × Bool) := callX Try.prog cfg 28 [(.agg (enc cRules r)), (.one (.str name))] [] ⟨[.agg (.ty cUnitType), .one (.ty .bool)], 0⟩
/-- skirmish/skirmishref09.Tech -/
noncomputable def ref09_Tech.f (r : RulesT) (name : ByteArray) : Option (TechT × Bool) := callX Try.prog cfg 33 [(.agg (enc cRules r)), (.one (.str name))] [] ⟨[.agg (.ty cTech), .one (.ty .bool)], 0⟩
/-- skirmish/skirmishref09.Validate -/
noncomputable def ref09_Validate.f (r : RulesT) : Option Int := callX Try.prog cfg 20 [(.agg (enc cRules r))] [] ⟨[.one (.ty (.int .i64))], 0⟩
noncomputable def law29_TechClosed.j1 (name : ByteArray) (valid : Bool) (t56 : Int) (t57 : Int) (o0 : RulesT) (o1 : (List ByteArray)) : Option Bool := lim Try.prog cfg 5 ⟨[.one (.ty .bool)], 0⟩ [lpIn Try.prog 5 [1, 1, 1, 1, 1, 1, 1, 0, 1, 0, 0], .blk 2, cdIn Try.prog 5 [1, 1, 1, 1, 1, 1, 1, 1]] ⟨mkE 109 [(1, (.one (.str name))), (2, (.one (.ptr 0 0))), (5, (.one (.osl 1))), (10, (.one (.bool valid))), (56, (.one (.int .i64 t56))), (57, (.one (.int .i64 t57)))], [(.cells (enc cRules o0)), (.row .str o1)]⟩
/-- skirmish/tech.find -/
noncomputable def tech_find.f (g : GameT) (player : Int) : Option Int := callX Try.prog cfg 43 [(.agg (enc cGame g)), (.one (.int .i64 player))] [] ⟨[.one (.ty (.int .i64))], 0⟩
/-- skirmish/rules.Tech -/
noncomputable def rules_Tech.f (r : RulesT) (name : ByteArray) : Option (TechT × Bool) := callX Try.prog cfg 44 [(.agg (enc cRules r)), (.one (.str name))] [] ⟨[.agg (.ty cTech), .one (.ty .bool)], 0⟩
/-- slices.Contains[[]string,string] -/
noncomputable def slices_Contains.f (s : (List ByteArray)) (v : ByteArray) : Option Bool := callX Try.prog cfg 45 [(.one (.slc .str s)), (.one (.str v))] [] ⟨[.one (.ty .bool)], 0⟩
/-- slices.Clone[[]skirmish/api.Player,skirmish/api.Player] -/
noncomputable def slices_Clone.f (s : (List PlayerT)) : Option (List PlayerT) := callX Try.prog cfg 46 [(.one (.slc cPlayer s))] [] ⟨[.one (.own cPlayer)], 0⟩
/-- slices.Clone[[]string,string] -/
noncomputable def slices_Clone_1.f (s : (List ByteArray)) : Option (List ByteArray) := callX Try.prog cfg 32 [(.one (.slc .str s))] [] ⟨[.one (.own .str)], 0⟩
/-- slices.IndexFunc[[]string,string] -/
noncomputable def slices_IndexFunc.f (s : (List ByteArray)) (f : ByteArray) : Option Int := callX Try.prog cfg 47 [(.one (.slc .str s)), (.one (.fn 48 [(.rptr [(.str f)])]))] [] ⟨[.one (.ty (.int .i64))], 0⟩
/-- slices.Insert[[]string,string] -/
noncomputable def slices_Insert.f (i : Int) (o : (List ByteArray)) (o1 : (List ByteArray)) : Option (List ByteArray) := callX Try.prog cfg 49 [(.one (.osl 1)), (.one (.int .i64 i)), (.one (.osl 2))] [(.ghost []), (.row .str o), (.row .str o1)] ⟨[.one (.ty (.slice .str))], 0⟩
/-- skirmish/skirmishref23.Player -/
noncomputable def ref23_Player.f (g : GameT) (id' : Int) : Option (PlayerT × Bool) := callX Try.prog cfg 30 [(.agg (enc cGame g)), (.one (.int .i64 id'))] [] ⟨[.agg (.ty cPlayer), .one (.ty .bool)], 0⟩
noncomputable def ref29_Learn.j0 (player : Int) (name : ByteArray) (done : Bool) (i : Int) (o0 : GameT) (o1 : Int) (o11 : Int) (o12 : Int) (o13 : Bool) (o14 : Int) (o15 : Int) (o16 : Int) (o2 : (List UnitTypeT)) (o3 : (List WeaponT)) (o4 : (List TechT)) (o5 : (List (Int × (Int × Int)))) (o6 : (List PlayerT)) (o7 : (List EntityT)) (o8 : (List ShotT)) (o9 : (List MemoryT)) (o10 : (List ScriptT)) (o111 : (List PlayerT)) : Option (GameT × Int) := lim Try.prog cfg 22 ⟨[.agg (.ty cGame), .one (.ty (.int .i64))], 0⟩ [lpIn Try.prog 22 [1, 1, 1, 1, 1, 1, 1, 1, 0, 1, 0, 0], .blk 0, cdIn Try.prog 22 [1, 1, 1, 1, 1, 1, 1, 1, 1]] ⟨mkE 81 [(1, (.one (.int .i64 player))), (2, (.one (.str name))), (3, (.one (.ptr 0 0))), (6, (.one (.ptr 1 0))), (12, (.one (.osl 11))), (13, (.one (.bool done))), (14, (.one (.int .i64 i)))], [(.cells (enc cGame o0)), (.cells [(.int .i64 o1), (.int .i64 o11), (.int .i64 o12), (.bool o13), (.int .u64 o14), (.osl 2), (.osl 3), (.osl 4), (.int .i64 o15), (.int .i64 o16), (.osl 5), (.osl 6), (.osl 7), (.osl 8), (.osl 9), (.osl 10)]), (.row cUnitType o2), (.row cWeapon o3), (.row cTech o4), (.row (.pair (.int .i64) (.pair (.int .i64) (.int .i64))) o5), (.row cPlayer o6), (.row cEntity o7), (.row cShot o8), (.row cMemory o9), (.row cScript o10), (.row cPlayer o111)]⟩
noncomputable def ref29_SamePlayers.j0 (a : (List PlayerT)) (b : (List PlayerT)) (i : Int) : Option Bool := lim Try.prog cfg 23 ⟨[.one (.ty .bool)], 0⟩ [lpIn Try.prog 23 [1, 1, 0, 1, 0, 0], .blk 0, cdIn Try.prog 23 [1, 1, 1]] ⟨mkE 68 [(0, (.one (.slc cPlayer a))), (1, (.one (.slc cPlayer b))), (5, (.one (.int .i64 i)))], []⟩
noncomputable def ref09_Same.j0 (i : Int) (o0 : RulesT) (o1 : RulesT) : Option Bool := lim Try.prog cfg 24 ⟨[.one (.ty .bool)], 0⟩ [lpIn Try.prog 24 [1, 1, 0, 1, 0, 0], .blk 0, cdIn Try.prog 24 [1, 1, 1]] ⟨mkE 89 [(2, (.one (.ptr 0 0))), (3, (.one (.ptr 1 0))), (5, (.one (.int .i64 i)))], [(.cells (enc cRules o0)), (.cells (enc cRules o1))]⟩
noncomputable def ref29_Has.j0 (l : (List ByteArray)) (s : ByteArray) (i : Int) : Option Bool := lim Try.prog cfg 19 ⟨[.one (.ty .bool)], 0⟩ [lpIn Try.prog 19 [1, 0, 1, 0, 0], .blk 0, cdIn Try.prog 19 [1, 1]] ⟨mkE 18 [(0, (.one (.slc .str l))), (1, (.one (.str s))), (5, (.one (.int .i64 i)))], []⟩
noncomputable def law29_TechKeeps.j1 (player : Int) (name : ByteArray) (t73 : Int) (t74 : Int) (o0 : GameT) (o1 : GameT) (o2 : (List ByteArray)) (o3 : (List ByteArray)) : Option Bool := lim Try.prog cfg 7 ⟨[.one (.ty .bool)], 0⟩ [lpIn Try.prog 7 [1, 1, 1, 1, 1, 1, 1, 0, 1, 0, 0], .blk 2, cdIn Try.prog 7 [1, 1, 1, 1, 1, 1, 1, 1]] ⟨mkE 126 [(1, (.one (.int .i64 player))), (2, (.one (.str name))), (3, (.one (.ptr 0 0))), (7, (.one (.ptr 1 0))), (9, (.one (.osl 2))), (10, (.one (.osl 3))), (73, (.one (.int .i64 t73))), (74, (.one (.int .i64 t74)))], [(.cells (enc cGame o0)), (.cells (enc cGame o1)), (.row .str o2), (.row .str o3)]⟩
noncomputable def tech_have.j0 (player : Int) (t15 : (List EntityT)) (t16 : Int) (t17 : Int) (o0 : GameT) (o1 : (List (ByteArray × Bool))) : Option (List (ByteArray × Bool)) := lim Try.prog cfg 27 ⟨[.one (.map .str .bool false true)], 0⟩ [lpIn Try.prog 27 [1, 1, 0, 1, 0, 0], .blk 0, cdIn Try.prog 27 [1, 1, 1]] ⟨mkE 68 [(1, (.one (.int .i64 player))), (2, (.one (.ptr 0 0))), (5, (.one (.osl 1))), (15, (.one (.slc cEntity t15))), (16, (.one (.int .i64 t16))), (17, (.one (.int .i64 t17)))], [(.cells (enc cGame o0)), (.map .str .bool false o1 true)]⟩
/-- skirmish/skirmishref29.with -/
noncomputable def ref29_with.f (l : (List ByteArray)) (s : ByteArray) : Option (List ByteArray) := callX Try.prog cfg 29 [(.one (.slc .str l)), (.one (.str s))] [] ⟨[.one (.ty (.slice .str))], 0⟩
noncomputable def ref29_Have.j1 (player : Int) (out : (List ByteArray)) (i : Int) (o0 : GameT) : Option (List ByteArray) := lim Try.prog cfg 12 ⟨[.one (.ty (.slice .str))], 0⟩ [lpIn Try.prog 12 [1, 1, 0, 1, 0, 0], .blk 0, cdIn Try.prog 12 [1, 1, 1]] ⟨mkE 74 [(1, (.one (.int .i64 player))), (2, (.one (.ptr 0 0))), (5, (.one (.slc .str out))), (6, (.one (.int .i64 i)))], [(.cells (enc cGame o0))]⟩
noncomputable def ref29_Have.j2 (i : Int) (o0 : (List ByteArray)) (o1 : PlayerT) : Option (List ByteArray) := lim Try.prog cfg 12 ⟨[.one (.ty (.slice .str))], 0⟩ [lpIn Try.prog 12 [1, 1, 1, 1, 0, 1, 0, 0], .blk 2, cdIn Try.prog 12 [1, 1, 1, 1, 1]] ⟨mkE 74 [(5, (.one (.osl 0))), (10, (.one (.ptr 1 0))), (12, (.one (.int .i64 i)))], [(.row .str o0), (.cells (enc cPlayer o1))]⟩
/-- skirmish/rules.Unit -/
noncomputable def rules_Unit.f (r : RulesT) (name : ByteArray) : Option (UnitTypeT × Bool) := callX Try.prog cfg 54 [(.agg (enc cRules r)), (.one (.str name))] [] ⟨[.agg (.ty cUnitType), .one (.ty .bool)], 0⟩
noncomputable def tech_Closure.j1 (o0 : RulesT) (o1 : (List ByteArray)) (o2 : (List (ByteArray × Bool))) : Option ((List ByteArray) × Int) := lim Try.prog cfg 16 ⟨[.one (.own .str), .one (.ty (.int .i64))], 0⟩ [lpIn Try.prog 16 [1, 1, 1, 1, 0, 0, 0], .blk 0, cdIn Try.prog 16 [1, 1, 1, 1, 1]] ⟨mkE 46 [(2, (.one (.ptr 0 0))), (6, (.one (.osl 1))), (8, (.one (.osl 2)))], [(.cells (enc cRules o0)), (.row .str o1), (.map .str .bool false o2 true)]⟩
noncomputable def ref29_Closure.j1 (l : (List ByteArray)) (out : (List ByteArray)) (i : Int) (o0 : RulesT) : Option ((List ByteArray) × Int) := lim Try.prog cfg 17 ⟨[.one (.ty (.slice .str)), .one (.ty (.int .i64))], 0⟩ [lpIn Try.prog 17 [1, 1, 1, 1, 0, 1, 0, 0], .blk 0, cdIn Try.prog 17 [1, 1, 1, 1, 1]] ⟨mkE 71 [(2, (.one (.ptr 0 0))), (6, (.one (.slc .str l))), (8, (.one (.slc .str out))), (9, (.one (.int .i64 i)))], [(.cells (enc cRules o0))]⟩
noncomputable def ref29_Closure.j2 (size : Int) (o0 : RulesT) (o1 : (List ByteArray)) : Option ((List ByteArray) × Int) := lim Try.prog cfg 17 ⟨[.one (.ty (.slice .str)), .one (.ty (.int .i64))], 0⟩ [lpIn Try.prog 17 [1, 1, 1, 1, 1, 1, 0, 0, 0], .blk 2, cdIn Try.prog 17 [1, 1, 1, 1, 1, 1, 1]] ⟨mkE 71 [(2, (.one (.ptr 0 0))), (8, (.one (.osl 1))), (10, (.one (.int .i64 size)))], [(.cells (enc cRules o0)), (.row .str o1)]⟩
noncomputable def ref09_Unit.j0 (name : ByteArray) (i : Int) (o0 : RulesT) (o1 : ByteArray) (o11 : Bool) (o12 : Bool) (o13 : Int) (o14 : Int) (o15 : Int) (o16 : Int) (o17 : Int) (o18 : Int) (o19 : Int) (o110 : Int) (o111 : Int) (o112 : ByteArray) (o113 : Int) (o114 : Int) (o115 : Int) (o2 : (List ByteArray)) (o3 : (List ByteArray)) (o4 : (List ByteArray)) : Option (UnitTypeT × Bool) := lim Try.prog cfg 28 ⟨[.agg (.ty cUnitType), .one (.ty .bool)], 0⟩ [lpIn Try.prog 28 [1, 0, 1, 0, 0], .blk 0, cdIn Try.prog 28 [1, 1]] ⟨mkE 28 [(1, (.one (.str name))), (2, (.one (.ptr 0 0))), (4, (.one (.ptr 1 0))), (6, (.one (.int .i64 i)))], [(.cells (enc cRules o0)), (.cells [(.str o1), (.bool o11), (.bool o12), (.int .i64 o13), (.int .i64 o14), (.int .i64 o15), (.int .i64 o16), (.int .i64 o17), (.int .i64 o18), (.int .i64 o19), (.int .i64 o110), (.int .i64 o111), (.str o112), (.int .i64 o113), (.int .i64 o114), (.int .i64 o115), (.osl 2), (.osl 3), (.osl 4)]), (.row .str o2), (.row .str o3), (.row .str o4)]⟩
noncomputable def ref09_Tech.j0 (name : ByteArray) (i : Int) (o0 : RulesT) (o1 : ByteArray) (o11 : Int) (o12 : Int) (o13 : Int) (o14 : ByteArray) (o15 : Int) (o16 : Int) (o2 : (List ByteArray)) : Option (TechT × Bool) := lim Try.prog cfg 33 ⟨[.agg (.ty cTech), .one (.ty .bool)], 0⟩ [lpIn Try.prog 33 [1, 0, 1, 0, 0], .blk 0, cdIn Try.prog 33 [1, 1]] ⟨mkE 28 [(1, (.one (.str name))), (2, (.one (.ptr 0 0))), (4, (.one (.ptr 1 0))), (6, (.one (.int .i64 i)))], [(.cells (enc cRules o0)), (.cells [(.str o1), (.osl 2), (.int .i64 o11), (.int .i64 o12), (.int .i64 o13), (.str o14), (.int .i64 o15), (.int .i64 o16)]), (.row .str o2)]⟩
/-- skirmish/skirmishref09.limits -/
noncomputable def ref09_limits.f (r : RulesT) : Option Bool := callX Try.prog cfg 34 [(.agg (enc cRules r))] [] ⟨[.one (.ty .bool)], 0⟩
/-- skirmish/skirmishref09.named -/
noncomputable def ref09_named.f (r : RulesT) : Option Bool := callX Try.prog cfg 35 [(.agg (enc cRules r))] [] ⟨[.one (.ty .bool)], 0⟩
/-- skirmish/skirmishref09.ordered -/
noncomputable def ref09_ordered.f (r : RulesT) : Option Bool := callX Try.prog cfg 36 [(.agg (enc cRules r))] [] ⟨[.one (.ty .bool)], 0⟩
/-- skirmish/skirmishref09.Techs -/
noncomputable def ref09_Techs.f (r : RulesT) : Option (List ByteArray) := callX Try.prog cfg 37 [(.agg (enc cRules r))] [] ⟨[.one (.own .str)], 0⟩
noncomputable def ref09_Validate.j0 (i : Int) (o0 : RulesT) (o1 : (List ByteArray)) : Option Int := lim Try.prog cfg 20 ⟨[.one (.ty (.int .i64))], 0⟩ [lpIn Try.prog 20 [1, 1, 1, 0, 1, 0, 0], .blk 1, cdIn Try.prog 20 [1, 1, 1, 1]] ⟨mkE 58 [(1, (.one (.ptr 0 0))), (3, (.one (.osl 1))), (4, (.one (.int .i64 i)))], [(.cells (enc cRules o0)), (.row .str o1)]⟩
noncomputable def law29_TechClosed.j2 (name : ByteArray) (valid : Bool) (i : Int) (n : (List ByteArray)) (t56 : Int) (t57 : Int) (t70 : Int) (t71 : Int) (o0 : RulesT) (o1 : (List ByteArray)) : Option Bool := lim Try.prog cfg 5 ⟨[.one (.ty .bool)], 0⟩ [lpIn Try.prog 5 [1, 1, 1, 1, 1, 1, 1, 0, 1, 0, 0, 1, 1, 0, 0, 1, 1, 0, 1, 0, 0], .blk 4, cdIn Try.prog 5 [1, 1, 1, 1, 1, 1, 1, 0, 1, 0, 0, 1, 1, 0, 0, 1, 1, 1], .blk 3, cdIn Try.prog 5 [1, 1, 1, 1, 1, 1, 1, 0, 1, 0, 0, 1, 1, 1], lpIn Try.prog 5 [1, 1, 1, 1, 1, 1, 1, 0, 1, 0, 0], .blk 2, cdIn Try.prog 5 [1, 1, 1, 1, 1, 1, 1, 1]] ⟨mkE 109 [(1, (.one (.str name))), (2, (.one (.ptr 0 0))), (5, (.one (.osl 1))), (10, (.one (.bool valid))), (11, (.one (.int .i64 i))), (12, (.one (.slc .str n))), (56, (.one (.int .i64 t56))), (57, (.one (.int .i64 t57))), (70, (.one (.int .i64 t70))), (71, (.one (.int .i64 t71)))], [(.cells (enc cRules o0)), (.row .str o1)]⟩
/-- slices.IndexFunc[[]skirmish/api.Player,skirmish/api.Player] -/
noncomputable def slices_IndexFunc_1.f (s : (List PlayerT)) (f : Int) : Option Int := callX Try.prog cfg 66 [(.one (.slc cPlayer s)), (.one (.fn 67 [(.rptr [(.int .i64 f)])]))] [] ⟨[.one (.ty (.int .i64))], 0⟩
/-- skirmish/rules.find[skirmish/api.Tech] -/
noncomputable def rules_find.f (l : (List TechT)) (want : ByteArray) : Option (TechT × Bool) := callX Try.prog cfg 68 [(.one (.slc cTech l)), (.one (.fn 69 [])), (.one (.str want))] [] ⟨[.agg (.ty cTech), .one (.ty .bool)], 0⟩
/-- slices.Index[[]string,string] -/
noncomputable def slices_Index.f (s : (List ByteArray)) (v : ByteArray) : Option Int := callX Try.prog cfg 70 [(.one (.slc .str s)), (.one (.str v))] [] ⟨[.one (.ty (.int .i64))], 0⟩
noncomputable def slices_IndexFunc.j0 (s : (List ByteArray)) (f : ByteArray) (t7 : Int) (t8 : Int) : Option Int := lim Try.prog cfg 47 ⟨[.one (.ty (.int .i64))], 0⟩ [lpIn Try.prog 47 [1, 0, 1, 0, 0], .blk 0, cdIn Try.prog 47 [1, 1]] ⟨mkE 19 [(0, (.one (.slc .str s))), (1, (.one (.fn 48 [(.rptr [(.str f)])]))), (7, (.one (.int .i64 t7))), (8, (.one (.int .i64 t8)))], []⟩
noncomputable def ref23_Player.j0 (id' : Int) (i : Int) (o0 : GameT) (o1 : Int) (o11 : Int) (o12 : Int) (o13 : Int) (o14 : Bool) (o2 : (List ByteArray)) : Option (PlayerT × Bool) := lim Try.prog cfg 30 ⟨[.agg (.ty cPlayer), .one (.ty .bool)], 0⟩ [lpIn Try.prog 30 [1, 0, 1, 0, 0], .blk 0, cdIn Try.prog 30 [1, 1]] ⟨mkE 28 [(1, (.one (.int .i64 id'))), (2, (.one (.ptr 0 0))), (4, (.one (.ptr 1 0))), (6, (.one (.int .i64 i)))], [(.cells (enc cGame o0)), (.cells [(.int .i64 o1), (.int .i64 o11), (.int .i64 o12), (.int .i64 o13), (.osl 2), (.bool o14)]), (.row .str o2)]⟩
/-- skirmish/skirmishref29.Insert -/
noncomputable def ref29_Insert.f (l : (List ByteArray)) (s : ByteArray) : Option (List ByteArray) := callX Try.prog cfg 50 [(.one (.slc .str l)), (.one (.str s))] [] ⟨[.one (.ty (.slice .str))], 0⟩
/-- skirmish/skirmishref09.SameUnit -/
noncomputable def ref09_SameUnit.f (a : UnitTypeT) (b : UnitTypeT) : Option Bool := callX Try.prog cfg 51 [(.agg (enc cUnitType a)), (.agg (enc cUnitType b))] [] ⟨[.one (.ty .bool)], 0⟩
noncomputable def ref09_Same.j1 (i : Int) (o0 : RulesT) (o1 : RulesT) : Option Bool := lim Try.prog cfg 24 ⟨[.one (.ty .bool)], 0⟩ [lpIn Try.prog 24 [1, 1, 1, 0, 1, 0, 0], .blk 2, cdIn Try.prog 24 [1, 1, 1, 1]] ⟨mkE 89 [(2, (.one (.ptr 0 0))), (3, (.one (.ptr 1 0))), (6, (.one (.int .i64 i)))], [(.cells (enc cRules o0)), (.cells (enc cRules o1))]⟩
noncomputable def law29_TechKeeps.j2 (player : Int) (name : ByteArray) (t87 : Int) (t88 : Int) (o0 : GameT) (o1 : GameT) : Option Bool := lim Try.prog cfg 7 ⟨[.one (.ty .bool)], 0⟩ [lpIn Try.prog 7 [1, 1, 1, 1, 1, 1, 1, 1, 0, 1, 0, 0], .blk 4, cdIn Try.prog 7 [1, 1, 1, 1, 1, 1, 1, 1, 1]] ⟨mkE 126 [(1, (.one (.int .i64 player))), (2, (.one (.str name))), (3, (.one (.ptr 0 0))), (7, (.one (.ptr 1 0))), (87, (.one (.int .i64 t87))), (88, (.one (.int .i64 t88)))], [(.cells (enc cGame o0)), (.cells (enc cGame o1))]⟩
/-- skirmish/entity.Ready -/
noncomputable def entity_Ready.f (e : EntityT) : Option Bool := callX Try.prog cfg 55 [(.agg (enc cEntity e))] [] ⟨[.one (.ty .bool)], 0⟩
noncomputable def tech_have.j1 (t58 : (List ByteArray)) (t59 : Int) (t60 : Int) (o0 : (List (ByteArray × Bool))) : Option (List (ByteArray × Bool)) := lim Try.prog cfg 27 ⟨[.one (.map .str .bool false true)], 0⟩ [lpIn Try.prog 27 [1, 1, 1, 0, 1, 1, 0, 1, 0, 0], .blk 2, .jn, cdIn Try.prog 27 [1, 1, 1, 1]] ⟨mkE 68 [(5, (.one (.osl 0))), (58, (.one (.slc .str t58))), (59, (.one (.int .i64 t59))), (60, (.one (.int .i64 t60)))], [(.map .str .bool false o0 true)]⟩
noncomputable def ref29_Have.j3 (out : (List ByteArray)) (i : Int) (o0 : PlayerT) : Option (List ByteArray) := lim Try.prog cfg 12 ⟨[.one (.ty (.slice .str))], 0⟩ [lpIn Try.prog 12 [1, 1, 1, 1, 0, 1, 0, 0], .blk 2, cdIn Try.prog 12 [1, 1, 1, 1, 1]] ⟨mkE 74 [(5, (.one (.slc .str out))), (10, (.one (.ptr 0 0))), (12, (.one (.int .i64 i)))], [(.cells (enc cPlayer o0))]⟩
/-- skirmish/rules.find[skirmish/api.UnitType] -/
noncomputable def rules_find_1.f (l : (List UnitTypeT)) (want : ByteArray) : Option (UnitTypeT × Bool) := callX Try.prog cfg 76 [(.one (.slc cUnitType l)), (.one (.fn 77 [])), (.one (.str want))] [] ⟨[.agg (.ty cUnitType), .one (.ty .bool)], 0⟩
/-- skirmish/rules.cloneUnit -/
noncomputable def rules_cloneUnit.f (u : UnitTypeT) : Option UnitTypeT := callX Try.prog cfg 78 [(.agg (enc cUnitType u))] [] ⟨[.agg (.ty cUnitType)], 0⟩
noncomputable def ref29_Closure.j3 (out : (List ByteArray)) (size : Int) (o0 : RulesT) : Option ((List ByteArray) × Int) := lim Try.prog cfg 17 ⟨[.one (.ty (.slice .str)), .one (.ty (.int .i64))], 0⟩ [lpIn Try.prog 17 [1, 1, 1, 1, 1, 1, 0, 0, 0], .blk 2, cdIn Try.prog 17 [1, 1, 1, 1, 1, 1, 1]] ⟨mkE 71 [(2, (.one (.ptr 0 0))), (8, (.one (.slc .str out))), (10, (.one (.int .i64 size)))], [(.cells (enc cRules o0))]⟩
noncomputable def ref29_Closure.j4 (size : Int) (i : Int) (o0 : RulesT) (o1 : (List ByteArray)) : Option ((List ByteArray) × Int) := lim Try.prog cfg 17 ⟨[.one (.ty (.slice .str)), .one (.ty (.int .i64))], 0⟩ [lpIn Try.prog 17 [1, 1, 1, 1, 1, 1, 0, 0, 0, 1, 0, 1, 1, 0, 1, 0, 0], .blk 4, cdIn Try.prog 17 [1, 1, 1, 1, 1, 1, 0, 0, 0, 1, 0, 1, 1, 1], .blk 3, lpIn Try.prog 17 [1, 1, 1, 1, 1, 1, 0, 0, 0], .blk 2, cdIn Try.prog 17 [1, 1, 1, 1, 1, 1, 1]] ⟨mkE 71 [(2, (.one (.ptr 0 0))), (8, (.one (.osl 1))), (10, (.one (.int .i64 size))), (11, (.one (.osl 1))), (12, (.one (.int .i64 i)))], [(.cells (enc cRules o0)), (.row .str o1)]⟩
noncomputable def ref09_limits.j0 (i : Int) (o0 : RulesT) : Option Bool := lim Try.prog cfg 34 ⟨[.one (.ty .bool)], 0⟩ [lpIn Try.prog 34 [1, 1, 0, 1, 0, 0], .blk 0, cdIn Try.prog 34 [1, 1, 1]] ⟨mkE 65 [(1, (.one (.ptr 0 0))), (3, (.one (.int .i64 i)))], [(.cells (enc cRules o0))]⟩
/-- skirmish/skirmishref09.Units -/
noncomputable def ref09_Units.f (r : RulesT) : Option (List ByteArray) := callX Try.prog cfg 56 [(.agg (enc cRules r))] [] ⟨[.one (.own .str)], 0⟩
/-- skirmish/skirmishref09.Weapons -/
noncomputable def ref09_Weapons.f (r : RulesT) : Option (List ByteArray) := callX Try.prog cfg 57 [(.agg (enc cRules r))] [] ⟨[.one (.own .str)], 0⟩
noncomputable def ref09_named.j0 (i : Int) (o0 : (List ByteArray)) : Option Bool := lim Try.prog cfg 35 ⟨[.one (.ty .bool)], 0⟩ [lpIn Try.prog 35 [1, 1, 0, 1, 0, 0], .blk 0, cdIn Try.prog 35 [1, 1, 1]] ⟨mkE 25 [(3, (.one (.osl 0))), (4, (.one (.int .i64 i)))], [(.row .str o0)]⟩
/-- skirmish/skirmishref09.ascending -/
noncomputable def ref09_ascending.f (l : (List ByteArray)) : Option Bool := callX Try.prog cfg 59 [(.one (.slc .str l))] [] ⟨[.one (.ty .bool)], 0⟩
noncomputable def ref09_ordered.j0 (ok : Bool) (i : Int) (o0 : RulesT) : Option Bool := lim Try.prog cfg 36 ⟨[.one (.ty .bool)], 0⟩ [lpIn Try.prog 36 [1, 1, 0, 1, 0, 0], .blk 0, cdIn Try.prog 36 [1, 1, 1]] ⟨mkE 66 [(1, (.one (.ptr 0 0))), (3, (.one (.bool ok))), (4, (.one (.int .i64 i)))], [(.cells (enc cRules o0))]⟩
noncomputable def ref09_Techs.j0 (i : Int) (o0 : RulesT) (o1 : (List ByteArray)) : Option (List ByteArray) := lim Try.prog cfg 37 ⟨[.one (.own .str)], 0⟩ [lpIn Try.prog 37 [1, 1, 0, 1, 0, 0], .blk 0, cdIn Try.prog 37 [1, 1, 1]] ⟨mkE 22 [(1, (.one (.ptr 0 0))), (3, (.one (.osl 1))), (4, (.one (.int .i64 i)))], [(.cells (enc cRules o0)), (.row .str o1)]⟩
/-- skirmish/skirmishref09.Has -/
noncomputable def ref09_Has.f (l : (List ByteArray)) (s : ByteArray) : Option Bool := callX Try.prog cfg 38 [(.one (.slc .str l)), (.one (.str s))] [] ⟨[.one (.ty .bool)], 0⟩
/-- skirmish/skirmishref09.numbers -/
noncomputable def ref09_numbers.f (r : RulesT) : Option Bool := callX Try.prog cfg 39 [(.agg (enc cRules r))] [] ⟨[.one (.ty .bool)], 0⟩
/-- skirmish/skirmishref09.found -/
noncomputable def ref09_found.f (r : RulesT) : Option Bool := callX Try.prog cfg 40 [(.agg (enc cRules r))] [] ⟨[.one (.ty .bool)], 0⟩
/-- skirmish/skirmishref09.typed -/
noncomputable def ref09_typed.f (r : RulesT) : Option Bool := callX Try.prog cfg 41 [(.agg (enc cRules r))] [] ⟨[.one (.ty .bool)], 0⟩
/-- skirmish/skirmishref09.sequence -/
noncomputable def ref09_sequence.f (r : RulesT) : Option (List ByteArray) := callX Try.prog cfg 42 [(.agg (enc cRules r))] [] ⟨[.one (.ty (.slice .str))], 0⟩
noncomputable def slices_IndexFunc_1.j0 (s : (List PlayerT)) (f : Int) (t7 : Int) (t8 : Int) : Option Int := lim Try.prog cfg 66 ⟨[.one (.ty (.int .i64))], 0⟩ [lpIn Try.prog 66 [1, 0, 1, 0, 0], .blk 0, cdIn Try.prog 66 [1, 1]] ⟨mkE 19 [(0, (.one (.slc cPlayer s))), (1, (.one (.fn 67 [(.rptr [(.int .i64 f)])]))), (7, (.one (.int .i64 t7))), (8, (.one (.int .i64 t8)))], []⟩
noncomputable def rules_find.j0 (want : ByteArray) (t11 : (List TechT)) (t12 : Int) (t13 : Int) (o0 : ByteArray) (o01 : Int) (o02 : Int) (o03 : Int) (o04 : ByteArray) (o05 : Int) (o06 : Int) (o1 : (List ByteArray)) : Option (TechT × Bool) := lim Try.prog cfg 68 ⟨[.agg (.ty cTech), .one (.ty .bool)], 0⟩ [lpIn Try.prog 68 [1, 0, 1, 0, 0], .blk 0, cdIn Try.prog 68 [1, 1]] ⟨mkE 25 [(1, (.one (.fn 69 []))), (2, (.one (.str want))), (6, (.one (.ptr 0 0))), (11, (.one (.slc cTech t11))), (12, (.one (.int .i64 t12))), (13, (.one (.int .i64 t13)))], [(.cells [(.str o0), (.osl 1), (.int .i64 o01), (.int .i64 o02), (.int .i64 o03), (.str o04), (.int .i64 o05), (.int .i64 o06)]), (.row .str o1)]⟩
noncomputable def slices_Index.j0 (s : (List ByteArray)) (v : ByteArray) (t7 : Int) (t8 : Int) : Option Int := lim Try.prog cfg 70 ⟨[.one (.ty (.int .i64))], 0⟩ [lpIn Try.prog 70 [1, 0, 1, 0, 0], .blk 0, cdIn Try.prog 70 [1, 1]] ⟨mkE 19 [(0, (.one (.slc .str s))), (1, (.one (.str v))), (7, (.one (.int .i64 t7))), (8, (.one (.int .i64 t8)))], []⟩
/-- skirmish/tech.Learn$1 -/
noncomputable def tech_Learn_1.f (s : ByteArray) (a1 : ByteArray) : Option Bool := callX Try.prog cfg 48 [(.one (.str s)), (.one (.rptr [(.str a1)]))] [] ⟨[.one (.ty .bool)], 0⟩
noncomputable def ref29_Insert.j0 (l : (List ByteArray)) (s : ByteArray) (put : Bool) (i : Int) (o0 : (List ByteArray)) : Option (List ByteArray) := lim Try.prog cfg 50 ⟨[.one (.ty (.slice .str))], 0⟩ [lpIn Try.prog 50 [1, 1, 1, 0, 1, 0, 0], .blk 0, cdIn Try.prog 50 [1, 1, 1, 1]] ⟨mkE 42 [(0, (.one (.slc .str l))), (1, (.one (.str s))), (5, (.one (.osl 0))), (6, (.one (.bool put))), (7, (.one (.int .i64 i)))], [(.row .str o0)]⟩
noncomputable def ref09_SameUnit.j0 (numbers : Bool) (o0 : UnitTypeT) (o1 : UnitTypeT) : Option Bool := lim Try.prog cfg 51 ⟨[.one (.ty .bool)], 0⟩ [cdIn Try.prog 51 [1, 1]] ⟨mkE 138 [(2, (.one (.ptr 0 0))), (3, (.one (.ptr 1 0))), (5, (.one (.bool numbers)))], [(.cells (enc cUnitType o0)), (.cells (enc cUnitType o1))]⟩
noncomputable def ref09_Same.j2 (i : Int) (o0 : RulesT) (o1 : RulesT) : Option Bool := lim Try.prog cfg 24 ⟨[.one (.ty .bool)], 0⟩ [lpIn Try.prog 24 [1, 1, 1, 1, 0, 1, 0, 0], .blk 4, cdIn Try.prog 24 [1, 1, 1, 1, 1]] ⟨mkE 89 [(2, (.one (.ptr 0 0))), (3, (.one (.ptr 1 0))), (7, (.one (.int .i64 i)))], [(.cells (enc cRules o0)), (.cells (enc cRules o1))]⟩
noncomputable def rules_find_1.j0 (want : ByteArray) (t11 : (List UnitTypeT)) (t12 : Int) (t13 : Int) (o0 : ByteArray) (o01 : Bool) (o02 : Bool) (o03 : Int) (o04 : Int) (o05 : Int) (o06 : Int) (o07 : Int) (o08 : Int) (o09 : Int) (o010 : Int) (o011 : Int) (o012 : ByteArray) (o013 : Int) (o014 : Int) (o015 : Int) (o1 : (List ByteArray)) (o2 : (List ByteArray)) (o3 : (List ByteArray)) : Option (UnitTypeT × Bool) := lim Try.prog cfg 76 ⟨[.agg (.ty cUnitType), .one (.ty .bool)], 0⟩ [lpIn Try.prog 76 [1, 0, 1, 0, 0], .blk 0, cdIn Try.prog 76 [1, 1]] ⟨mkE 25 [(1, (.one (.fn 77 []))), (2, (.one (.str want))), (6, (.one (.ptr 0 0))), (11, (.one (.slc cUnitType t11))), (12, (.one (.int .i64 t12))), (13, (.one (.int .i64 t13)))], [(.cells [(.str o0), (.bool o01), (.bool o02), (.int .i64 o03), (.int .i64 o04), (.int .i64 o05), (.int .i64 o06), (.int .i64 o07), (.int .i64 o08), (.int .i64 o09), (.int .i64 o010), (.int .i64 o011), (.str o012), (.int .i64 o013), (.int .i64 o014), (.int .i64 o015), (.osl 1), (.osl 2), (.osl 3)]), (.row .str o1), (.row .str o2), (.row .str o3)]⟩
noncomputable def ref29_Closure.j5 (out : (List ByteArray)) (size : Int) (more : (List ByteArray)) (i : Int) (o0 : RulesT) : Option ((List ByteArray) × Int) := lim Try.prog cfg 17 ⟨[.one (.ty (.slice .str)), .one (.ty (.int .i64))], 0⟩ [lpIn Try.prog 17 [1, 1, 1, 1, 1, 1, 0, 0, 0, 1, 0, 1, 1, 0, 1, 0, 0], .blk 4, cdIn Try.prog 17 [1, 1, 1, 1, 1, 1, 0, 0, 0, 1, 0, 1, 1, 1], .blk 3, lpIn Try.prog 17 [1, 1, 1, 1, 1, 1, 0, 0, 0], .blk 2, cdIn Try.prog 17 [1, 1, 1, 1, 1, 1, 1]] ⟨mkE 71 [(2, (.one (.ptr 0 0))), (8, (.one (.slc .str out))), (10, (.one (.int .i64 size))), (11, (.one (.slc .str more))), (12, (.one (.int .i64 i)))], [(.cells (enc cRules o0))]⟩
noncomputable def ref29_Closure.j6 (size : Int) (i : Int) (n : (List ByteArray)) (k : Int) (o0 : RulesT) (o1 : (List ByteArray)) : Option ((List ByteArray) × Int) := lim Try.prog cfg 17 ⟨[.one (.ty (.slice .str)), .one (.ty (.int .i64))], 0⟩ [lpIn Try.prog 17 [1, 1, 1, 1, 1, 1, 0, 0, 0, 1, 0, 1, 1, 0, 1, 0, 0, 1, 0, 0, 1, 1, 0, 0], .blk 6, .blk 5, cdIn Try.prog 17 [1, 1, 1, 1, 1, 1, 0, 0, 0, 1, 0, 1, 1, 0, 1, 0, 0, 1, 1], lpIn Try.prog 17 [1, 1, 1, 1, 1, 1, 0, 0, 0, 1, 0, 1, 1, 0, 1, 0, 0], .blk 4, cdIn Try.prog 17 [1, 1, 1, 1, 1, 1, 0, 0, 0, 1, 0, 1, 1, 1], .blk 3, lpIn Try.prog 17 [1, 1, 1, 1, 1, 1, 0, 0, 0], .blk 2, cdIn Try.prog 17 [1, 1, 1, 1, 1, 1, 1]] ⟨mkE 71 [(2, (.one (.ptr 0 0))), (8, (.one (.osl 1))), (10, (.one (.int .i64 size))), (11, (.one (.osl 1))), (12, (.one (.int .i64 i))), (13, (.one (.slc .str n))), (15, (.one (.int .i64 k)))], [(.cells (enc cRules o0)), (.row .str o1)]⟩
noncomputable def ref09_limits.j1 (i : Int) (o0 : RulesT) : Option Bool := lim Try.prog cfg 34 ⟨[.one (.ty .bool)], 0⟩ [lpIn Try.prog 34 [1, 1, 1, 0, 1, 0, 0], .blk 2, cdIn Try.prog 34 [1, 1, 1, 1]] ⟨mkE 65 [(1, (.one (.ptr 0 0))), (5, (.one (.int .i64 i)))], [(.cells (enc cRules o0))]⟩
noncomputable def ref09_Units.j0 (i : Int) (o0 : RulesT) (o1 : (List ByteArray)) : Option (List ByteArray) := lim Try.prog cfg 56 ⟨[.one (.own .str)], 0⟩ [lpIn Try.prog 56 [1, 1, 0, 1, 0, 0], .blk 0, cdIn Try.prog 56 [1, 1, 1]] ⟨mkE 22 [(1, (.one (.ptr 0 0))), (3, (.one (.osl 1))), (4, (.one (.int .i64 i)))], [(.cells (enc cRules o0)), (.row .str o1)]⟩
noncomputable def ref09_Weapons.j0 (i : Int) (o0 : RulesT) (o1 : (List ByteArray)) : Option (List ByteArray) := lim Try.prog cfg 57 ⟨[.one (.own .str)], 0⟩ [lpIn Try.prog 57 [1, 1, 0, 1, 0, 0], .blk 0, cdIn Try.prog 57 [1, 1, 1]] ⟨mkE 22 [(1, (.one (.ptr 0 0))), (3, (.one (.osl 1))), (4, (.one (.int .i64 i)))], [(.cells (enc cRules o0)), (.row .str o1)]⟩
/-- skirmish/skirmishref09.Name -/
noncomputable def ref09_Name.f (s : ByteArray) : Option Bool := callX Try.prog cfg 58 [(.one (.str s))] [] ⟨[.one (.ty .bool)], 0⟩
noncomputable def ref09_ascending.j0 (l : (List ByteArray)) (i : Int) : Option Bool := lim Try.prog cfg 59 ⟨[.one (.ty .bool)], 0⟩ [lpIn Try.prog 59 [1, 0, 1, 0, 0], .blk 0, cdIn Try.prog 59 [1, 1]] ⟨mkE 20 [(0, (.one (.slc .str l))), (3, (.one (.int .i64 i)))], []⟩
noncomputable def ref09_ordered.j1 (ok : Bool) (i : Int) (o0 : RulesT) : Option Bool := lim Try.prog cfg 36 ⟨[.one (.ty .bool)], 0⟩ [lpIn Try.prog 36 [1, 1, 1, 0, 1, 0, 0], .blk 2, cdIn Try.prog 36 [1, 1, 1, 1]] ⟨mkE 66 [(1, (.one (.ptr 0 0))), (3, (.one (.bool ok))), (6, (.one (.int .i64 i)))], [(.cells (enc cRules o0))]⟩
noncomputable def ref09_Has.j0 (l : (List ByteArray)) (s : ByteArray) (i : Int) : Option Bool := lim Try.prog cfg 38 ⟨[.one (.ty .bool)], 0⟩ [lpIn Try.prog 38 [1, 0, 1, 0, 0], .blk 0, cdIn Try.prog 38 [1, 1]] ⟨mkE 18 [(0, (.one (.slc .str l))), (1, (.one (.str s))), (5, (.one (.int .i64 i)))], []⟩
noncomputable def ref09_numbers.j0 (ok : Bool) (i : Int) (o0 : RulesT) : Option Bool := lim Try.prog cfg 39 ⟨[.one (.ty .bool)], 0⟩ [lpIn Try.prog 39 [1, 1, 0, 1, 0, 0], .blk 0, cdIn Try.prog 39 [1, 1, 1]] ⟨mkE 102 [(1, (.one (.ptr 0 0))), (3, (.one (.bool ok))), (4, (.one (.int .i64 i)))], [(.cells (enc cRules o0))]⟩
noncomputable def ref09_found.j0 (i : Int) (o0 : RulesT) (o1 : (List ByteArray)) (o2 : (List ByteArray)) (o3 : (List ByteArray)) (o4 : (List ByteArray)) : Option Bool := lim Try.prog cfg 40 ⟨[.one (.ty .bool)], 0⟩ [lpIn Try.prog 40 [1, 1, 1, 0, 1, 0, 0], .blk 0, cdIn Try.prog 40 [1, 1, 1, 1]] ⟨mkE 91 [(1, (.one (.ptr 0 0))), (3, (.one (.osl 1))), (4, (.one (.osl 2))), (5, (.one (.osl 3))), (6, (.one (.osl 4))), (7, (.one (.int .i64 i)))], [(.cells (enc cRules o0)), (.row .str o1), (.row .str o2), (.row .str o3), (.row .str o4)]⟩
noncomputable def ref09_typed.j0 (i : Int) (o0 : RulesT) : Option Bool := lim Try.prog cfg 41 ⟨[.one (.ty .bool)], 0⟩ [lpIn Try.prog 41 [1, 0, 1, 0, 0], .blk 0, cdIn Try.prog 41 [1, 1]] ⟨mkE 75 [(1, (.one (.ptr 0 0))), (3, (.one (.int .i64 i)))], [(.cells (enc cRules o0))]⟩
noncomputable def ref09_sequence.j0 (o0 : RulesT) (o1 : (List ByteArray)) (o2 : (List ByteArray)) : Option (List ByteArray) := lim Try.prog cfg 42 ⟨[.one (.ty (.slice .str))], 0⟩ [lpIn Try.prog 42 [1, 1, 1, 0, 0], .blk 0] ⟨mkE 58 [(1, (.one (.ptr 0 0))), (3, (.one (.osl 1))), (4, (.one (.osl 2)))], [(.cells (enc cRules o0)), (.row .str o1), (.row .str o2)]⟩
/-- skirmish/tech.find$1 -/
noncomputable def tech_find_1.f (p : PlayerT) (a1 : Int) : Option Bool := callX Try.prog cfg 67 [(.agg (enc cPlayer p)), (.one (.rptr [(.int .i64 a1)]))] [] ⟨[.one (.ty .bool)], 0⟩
/-- skirmish/rules.techName -/
noncomputable def rules_techName.f (t : TechT) : Option ByteArray := callX Try.prog cfg 69 [(.agg (enc cTech t))] [] ⟨[.one (.ty .str)], 0⟩
/-- skirmish/skirmishref09.SameNames -/
noncomputable def ref09_SameNames.f (a : (List ByteArray)) (b : (List ByteArray)) : Option Bool := callX Try.prog cfg 73 [(.one (.slc .str a)), (.one (.slc .str b))] [] ⟨[.one (.ty .bool)], 0⟩
noncomputable def ref09_SameUnit.j1 (t4 : Bool) : Option Bool := lim Try.prog cfg 51 ⟨[.one (.ty .bool)], 0⟩ [cdIn Try.prog 51 [1, 1, 1]] ⟨mkE 138 [(4, (.one (.bool t4)))], []⟩
/-- skirmish/skirmishref09.SameTech -/
noncomputable def ref09_SameTech.f (a : TechT) (b : TechT) : Option Bool := callX Try.prog cfg 52 [(.agg (enc cTech a)), (.agg (enc cTech b))] [] ⟨[.one (.ty .bool)], 0⟩
/-- skirmish/rules.unitName -/
noncomputable def rules_unitName.f (u : UnitTypeT) : Option ByteArray := callX Try.prog cfg 77 [(.agg (enc cUnitType u))] [] ⟨[.one (.ty .str)], 0⟩
noncomputable def ref29_Closure.j7 (out : (List ByteArray)) (size : Int) (more : (List ByteArray)) (i : Int) (n : (List ByteArray)) (k : Int) (o0 : RulesT) : Option ((List ByteArray) × Int) := lim Try.prog cfg 17 ⟨[.one (.ty (.slice .str)), .one (.ty (.int .i64))], 0⟩ [lpIn Try.prog 17 [1, 1, 1, 1, 1, 1, 0, 0, 0, 1, 0, 1, 1, 0, 1, 0, 0, 1, 0, 0, 1, 1, 0, 0], .blk 6, .blk 5, cdIn Try.prog 17 [1, 1, 1, 1, 1, 1, 0, 0, 0, 1, 0, 1, 1, 0, 1, 0, 0, 1, 1], lpIn Try.prog 17 [1, 1, 1, 1, 1, 1, 0, 0, 0, 1, 0, 1, 1, 0, 1, 0, 0], .blk 4, cdIn Try.prog 17 [1, 1, 1, 1, 1, 1, 0, 0, 0, 1, 0, 1, 1, 1], .blk 3, lpIn Try.prog 17 [1, 1, 1, 1, 1, 1, 0, 0, 0], .blk 2, cdIn Try.prog 17 [1, 1, 1, 1, 1, 1, 1]] ⟨mkE 71 [(2, (.one (.ptr 0 0))), (8, (.one (.slc .str out))), (10, (.one (.int .i64 size))), (11, (.one (.slc .str more))), (12, (.one (.int .i64 i))), (13, (.one (.slc .str n))), (15, (.one (.int .i64 k)))], [(.cells (enc cRules o0))]⟩
noncomputable def ref29_Closure.j8 (size : Int) (more : (List ByteArray)) (i : Int) (n : (List ByteArray)) (k : Int) (o0 : RulesT) (o1 : (List ByteArray)) : Option ((List ByteArray) × Int) := lim Try.prog cfg 17 ⟨[.one (.ty (.slice .str)), .one (.ty (.int .i64))], 0⟩ [lpIn Try.prog 17 [1, 1, 1, 1, 1, 1, 0, 0, 0, 1, 0, 1, 1, 0, 1, 0, 0, 1, 0, 0, 1, 1, 0, 0], .blk 6, .blk 5, cdIn Try.prog 17 [1, 1, 1, 1, 1, 1, 0, 0, 0, 1, 0, 1, 1, 0, 1, 0, 0, 1, 1], lpIn Try.prog 17 [1, 1, 1, 1, 1, 1, 0, 0, 0, 1, 0, 1, 1, 0, 1, 0, 0], .blk 4, cdIn Try.prog 17 [1, 1, 1, 1, 1, 1, 0, 0, 0, 1, 0, 1, 1, 1], .blk 3, lpIn Try.prog 17 [1, 1, 1, 1, 1, 1, 0, 0, 0], .blk 2, cdIn Try.prog 17 [1, 1, 1, 1, 1, 1, 1]] ⟨mkE 71 [(2, (.one (.ptr 0 0))), (8, (.one (.osl 1))), (10, (.one (.int .i64 size))), (11, (.one (.slc .str more))), (12, (.one (.int .i64 i))), (13, (.one (.slc .str n))), (15, (.one (.int .i64 k)))], [(.cells (enc cRules o0)), (.frz .str o1)]⟩
noncomputable def ref09_Name.j0 (s : ByteArray) (i : Int) : Option Bool := lim Try.prog cfg 58 ⟨[.one (.ty .bool)], 0⟩ [lpIn Try.prog 58 [1, 1, 0, 1, 0, 0], .blk 0, cdIn Try.prog 58 [1, 1, 1]] ⟨mkE 52 [(0, (.one (.str s))), (3, (.one (.int .i64 i)))], []⟩
/-- skirmish/skirmishref09.shaped -/
noncomputable def ref09_shaped.f (u : UnitTypeT) : Option Bool := callX Try.prog cfg 60 [(.agg (enc cUnitType u))] [] ⟨[.one (.ty .bool)], 0⟩
noncomputable def ref09_numbers.j1 (ok : Bool) (i : Int) (o0 : RulesT) : Option Bool := lim Try.prog cfg 39 ⟨[.one (.ty .bool)], 0⟩ [lpIn Try.prog 39 [1, 1, 1, 0, 1, 0, 0], .blk 2, cdIn Try.prog 39 [1, 1, 1, 1]] ⟨mkE 102 [(1, (.one (.ptr 0 0))), (3, (.one (.bool ok))), (5, (.one (.int .i64 i)))], [(.cells (enc cRules o0))]⟩
/-- skirmish/skirmishref09.all -/
noncomputable def ref09_all.f (l : (List ByteArray)) (in' : (List ByteArray)) : Option Bool := callX Try.prog cfg 63 [(.one (.slc .str l)), (.one (.slc .str in'))] [] ⟨[.one (.ty .bool)], 0⟩
noncomputable def ref09_found.j1 (i : Int) (o0 : RulesT) (o1 : (List ByteArray)) (o2 : (List ByteArray)) : Option Bool := lim Try.prog cfg 40 ⟨[.one (.ty .bool)], 0⟩ [lpIn Try.prog 40 [1, 1, 1, 1, 0, 1, 0, 0], .blk 2, cdIn Try.prog 40 [1, 1, 1, 1, 1]] ⟨mkE 91 [(1, (.one (.ptr 0 0))), (3, (.one (.osl 1))), (6, (.one (.osl 2))), (9, (.one (.int .i64 i)))], [(.cells (enc cRules o0)), (.row .str o1), (.row .str o2)]⟩
/-- skirmish/skirmishref09.needed -/
noncomputable def ref09_needed.f (r : RulesT) (l : (List ByteArray)) : Option Bool := callX Try.prog cfg 64 [(.agg (enc cRules r)), (.one (.slc .str l))] [] ⟨[.one (.ty .bool)], 0⟩
noncomputable def ref09_typed.j1 (i : Int) (k : Int) (o0 : RulesT) (o1 : UnitTypeT) : Option Bool := lim Try.prog cfg 41 ⟨[.one (.ty .bool)], 0⟩ [lpIn Try.prog 41 [1, 0, 1, 0, 0, 1, 0, 0, 1, 1, 1, 0, 0], .blk 2, .blk 1, cdIn Try.prog 41 [1, 0, 1, 0, 0, 1, 1], lpIn Try.prog 41 [1, 0, 1, 0, 0], .blk 0, cdIn Try.prog 41 [1, 1]] ⟨mkE 75 [(1, (.one (.ptr 0 0))), (3, (.one (.int .i64 i))), (4, (.one (.ptr 1 0))), (5, (.one (.int .i64 k)))], [(.cells (enc cRules o0)), (.cells (enc cUnitType o1))]⟩
noncomputable def ref09_typed.j2 (i : Int) (o0 : RulesT) : Option Bool := lim Try.prog cfg 41 ⟨[.one (.ty .bool)], 0⟩ [lpIn Try.prog 41 [1, 1, 0, 1, 0, 0], .blk 4, cdIn Try.prog 41 [1, 1, 1]] ⟨mkE 75 [(1, (.one (.ptr 0 0))), (8, (.one (.int .i64 i)))], [(.cells (enc cRules o0))]⟩
noncomputable def ref09_sequence.j1 (best : ByteArray) (i : Int) (o0 : RulesT) (o1 : (List ByteArray)) (o2 : (List ByteArray)) : Option (List ByteArray) := lim Try.prog cfg 42 ⟨[.one (.ty (.slice .str))], 0⟩ [lpIn Try.prog 42 [1, 1, 1, 0, 0, 0, 1, 0, 1, 0, 0], .blk 2, cdIn Try.prog 42 [1, 1, 1, 0, 0, 0, 1, 1], .blk 1, lpIn Try.prog 42 [1, 1, 1, 0, 0], .blk 0] ⟨mkE 58 [(1, (.one (.ptr 0 0))), (3, (.one (.osl 1))), (4, (.one (.osl 2))), (5, (.one (.str best))), (6, (.one (.int .i64 i)))], [(.cells (enc cRules o0)), (.row .str o1), (.row .str o2)]⟩
noncomputable def ref09_SameNames.j0 (a : (List ByteArray)) (b : (List ByteArray)) (i : Int) : Option Bool := lim Try.prog cfg 73 ⟨[.one (.ty .bool)], 0⟩ [lpIn Try.prog 73 [1, 1, 0, 1, 0, 0], .blk 0, cdIn Try.prog 73 [1, 1, 1]] ⟨mkE 26 [(0, (.one (.slc .str a))), (1, (.one (.slc .str b))), (5, (.one (.int .i64 i)))], []⟩
noncomputable def ref29_Closure.j9 (size : Int) (more : (List ByteArray)) (i : Int) (o0 : RulesT) (o1 : (List ByteArray)) : Option ((List ByteArray) × Int) := lim Try.prog cfg 17 ⟨[.one (.ty (.slice .str)), .one (.ty (.int .i64))], 0⟩ [lpIn Try.prog 17 [1, 1, 1, 1, 1, 1, 0, 0, 0, 1, 0, 1, 1, 0, 1, 0, 0], .blk 4, cdIn Try.prog 17 [1, 1, 1, 1, 1, 1, 0, 0, 0, 1, 0, 1, 1, 1], .blk 3, lpIn Try.prog 17 [1, 1, 1, 1, 1, 1, 0, 0, 0], .blk 2, cdIn Try.prog 17 [1, 1, 1, 1, 1, 1, 1]] ⟨mkE 71 [(2, (.one (.ptr 0 0))), (8, (.one (.osl 1))), (10, (.one (.int .i64 size))), (11, (.one (.slc .str more))), (12, (.one (.int .i64 i)))], [(.cells (enc cRules o0)), (.frz .str o1)]⟩
/-- skirmish/skirmishref09.within -/
noncomputable def ref09_within.f (n : Int) (lo' : Int) (hi : Int) : Option Bool := callX Try.prog cfg 61 [(.one (.int .i64 n)), (.one (.int .i64 lo')), (.one (.int .i64 hi))] [] ⟨[.one (.ty .bool)], 0⟩
/-- skirmish/skirmishref09.stat -/
noncomputable def ref09_stat.f (n : Int) : Option Bool := callX Try.prog cfg 62 [(.one (.int .i64 n))] [] ⟨[.one (.ty .bool)], 0⟩
noncomputable def ref09_numbers.j2 (ok : Bool) (i : Int) (o0 : RulesT) : Option Bool := lim Try.prog cfg 39 ⟨[.one (.ty .bool)], 0⟩ [lpIn Try.prog 39 [1, 1, 1, 1, 0, 1, 0, 0], .blk 4, cdIn Try.prog 39 [1, 1, 1, 1, 1]] ⟨mkE 102 [(1, (.one (.ptr 0 0))), (3, (.one (.bool ok))), (7, (.one (.int .i64 i)))], [(.cells (enc cRules o0))]⟩
noncomputable def ref09_all.j0 (l : (List ByteArray)) (in' : (List ByteArray)) (i : Int) : Option Bool := lim Try.prog cfg 63 ⟨[.one (.ty .bool)], 0⟩ [lpIn Try.prog 63 [1, 0, 1, 0, 0], .blk 0, cdIn Try.prog 63 [1, 1]] ⟨mkE 19 [(0, (.one (.slc .str l))), (1, (.one (.slc .str in'))), (5, (.one (.int .i64 i)))], []⟩
noncomputable def ref09_needed.j0 (l : (List ByteArray)) (i : Int) (o0 : RulesT) : Option Bool := lim Try.prog cfg 64 ⟨[.one (.ty .bool)], 0⟩ [lpIn Try.prog 64 [1, 0, 1, 0, 0], .blk 0, cdIn Try.prog 64 [1, 1]] ⟨mkE 29 [(1, (.one (.slc .str l))), (2, (.one (.ptr 0 0))), (5, (.one (.int .i64 i)))], [(.cells (enc cRules o0))]⟩
/-- skirmish/skirmishref09.Needs -/
noncomputable def ref09_Needs.f (r : RulesT) (name : ByteArray) : Option (List ByteArray) := callX Try.prog cfg 65 [(.agg (enc cRules r)), (.one (.str name))] [] ⟨[.one (.ty (.slice .str))], 0⟩
end Go.Proofs.Ytpcahneiinjdmaa
