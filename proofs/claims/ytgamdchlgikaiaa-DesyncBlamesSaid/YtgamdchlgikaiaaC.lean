/- The functions of the program: which hand back new slices, which write what they are handed, what is told of slices.Sort. -/
import Derived.Test.YtgamdchlgikaiaaSkB
import Derived.Test.YtgamdchlgikaiaaProg
namespace Go.Proofs.Ytgamdchlgikaiaa
open Go Go.Sk
def ownB (f : FuncId) : Bool := match f with | 12 => true | 13 => true | 17 => true | 18 => true | 19 => true | 24 => true | _ => false
def refB (f : FuncId) : RefMode := match f with | 22 => .keep | 23 => .keep | 24 => .gone | 25 => .keep | 30 => .keep | _ => .pure
def primB (f : FuncId) (args : List V) (mem : List Sk.Obj) (ρ : RD) : Option ρ.El := match f with
  | 23 => (match args, mem, ρ with
    | [.one (.osl 1)], [.ghost [.osl 1], .row (.int .i64) xs], ⟨[.one (.own (.int .i64))], 1⟩ => if xs.length < 4611686018427387904 then some (xs.mergeSort fun x y => decide (x ≤ y)) else none
    | _, _, _ => none)
  | _ => none
def cfg : Cfg := { own := ownB, ref := refB, prim := primB }
end Go.Proofs.Ytgamdchlgikaiaa
