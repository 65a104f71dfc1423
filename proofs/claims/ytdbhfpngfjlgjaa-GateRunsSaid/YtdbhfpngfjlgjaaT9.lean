/- slices.Insert where the room is known: printed by a program. -/
import Derived.Test.YtdbhfpngfjlgjaaT5
import Derived.KernelRfl
import Derived.Test.YtdbhfpngfjlgjaaT4
import Derived.Test.YtdbhfpngfjlgjaaT6
import Derived.Test.YtdbhfpngfjlgjaaT7
import Derived.Test.YtdbhfpngfjlgjaaT8
set_option linter.unusedVariables false
set_option maxRecDepth 100000
set_option maxHeartbeats 4000000
namespace Go.Proofs.Ytdbhfpngfjlgjaa
open Go Go.Sk

/-- slices.Insert[[]skirmish/api.Batch,skirmish/api.Batch] -/
noncomputable def room_Insert.f (xs : List (El (.pair (.int .i64) (.pair (.int .i64) (.pair (.int .i64) (.slice (.pair (.int .i64) (.pair (.int .i64) (.pair (.slice (.int .i64)) (.pair (.pair (.int .i64) (.int .i64)) (.pair (.int .i64) (.pair (.int .i64) (.pair .str .bool))))))))))))) (sp : List (El (.pair (.int .i64) (.pair (.int .i64) (.pair (.int .i64) (.slice (.pair (.int .i64) (.pair (.int .i64) (.pair (.slice (.int .i64)) (.pair (.pair (.int .i64) (.int .i64)) (.pair (.int .i64) (.pair (.int .i64) (.pair .str .bool))))))))))))) (ys : List (El (.pair (.int .i64) (.pair (.int .i64) (.pair (.int .i64) (.slice (.pair (.int .i64) (.pair (.int .i64) (.pair (.slice (.int .i64)) (.pair (.pair (.int .i64) (.int .i64)) (.pair (.int .i64) (.pair (.int .i64) (.pair .str .bool))))))))))))) (i : Int) : Option (List (Int × (Int × (Int × (List (Int × (Int × ((List Int) × ((Int × Int) × (Int × (Int × (ByteArray × Bool)))))))))))) := callF Try.prog cfg0 44 [(.one (.ovw 1 0 (List.length (α := El (.pair (.int .i64) (.pair (.int .i64) (.pair (.int .i64) (.slice (.pair (.int .i64) (.pair (.int .i64) (.pair (.slice (.int .i64)) (.pair (.pair (.int .i64) (.int .i64)) (.pair (.int .i64) (.pair (.int .i64) (.pair .str .bool)))))))))))) xs))), (.one (.int .i64 i)), (.one (.osl 2))] [(.ghost []), (.full (.pair (.int .i64) (.pair (.int .i64) (.pair (.int .i64) (.slice (.pair (.int .i64) (.pair (.int .i64) (.pair (.slice (.int .i64)) (.pair (.pair (.int .i64) (.int .i64)) (.pair (.int .i64) (.pair (.int .i64) (.pair .str .bool))))))))))) (List.append (α := El (.pair (.int .i64) (.pair (.int .i64) (.pair (.int .i64) (.slice (.pair (.int .i64) (.pair (.int .i64) (.pair (.slice (.int .i64)) (.pair (.pair (.int .i64) (.int .i64)) (.pair (.int .i64) (.pair (.int .i64) (.pair .str .bool)))))))))))) xs sp)), (.row (.pair (.int .i64) (.pair (.int .i64) (.pair (.int .i64) (.slice (.pair (.int .i64) (.pair (.int .i64) (.pair (.slice (.int .i64)) (.pair (.pair (.int .i64) (.int .i64)) (.pair (.int .i64) (.pair (.int .i64) (.pair .str .bool))))))))))) ys)] ⟨[.one (.ty (.slice (.pair (.int .i64) (.pair (.int .i64) (.pair (.int .i64) (.slice (.pair (.int .i64) (.pair (.int .i64) (.pair (.slice (.int .i64)) (.pair (.pair (.int .i64) (.int .i64)) (.pair (.int .i64) (.pair (.int .i64) (.pair .str .bool)))))))))))))], 0⟩

theorem room_Insert.f_eq (xs : List (El (.pair (.int .i64) (.pair (.int .i64) (.pair (.int .i64) (.slice (.pair (.int .i64) (.pair (.int .i64) (.pair (.slice (.int .i64)) (.pair (.pair (.int .i64) (.int .i64)) (.pair (.int .i64) (.pair (.int .i64) (.pair .str .bool))))))))))))) (sp : List (El (.pair (.int .i64) (.pair (.int .i64) (.pair (.int .i64) (.slice (.pair (.int .i64) (.pair (.int .i64) (.pair (.slice (.int .i64)) (.pair (.pair (.int .i64) (.int .i64)) (.pair (.int .i64) (.pair (.int .i64) (.pair .str .bool))))))))))))) (ys : List (El (.pair (.int .i64) (.pair (.int .i64) (.pair (.int .i64) (.slice (.pair (.int .i64) (.pair (.int .i64) (.pair (.slice (.int .i64)) (.pair (.pair (.int .i64) (.int .i64)) (.pair (.int .i64) (.pair (.int .i64) (.pair .str .bool))))))))))))) (i : Int) : room_Insert.f xs sp ys i = (bif (Decidable.decide (0 ≤ i) && Decidable.decide (i ≤ (↑(List.length xs) : Int)) && Decidable.decide ((↑0 : Int) + (↑(List.length xs) : Int) ≤ (↑(List.length (List.append xs sp)) : Int))) then (bif ((↑(List.length ys) : Int) == 0) then (bif (Decidable.decide (0 + List.length xs ≤ List.length (List.append xs sp))) then some (List.take (List.length xs) (List.drop 0 (List.append xs sp))) else none) else (bif (i == (↑(List.length xs) : Int)) then (bif (Decidable.decide (0 + List.length xs ≤ List.length (List.append xs sp))) then (bif (Decidable.decide (0 + List.length xs + List.length ys ≤ List.length (List.append xs sp))) then (bif (Decidable.decide (0 + (List.length xs + List.length ys) ≤ List.length (List.take (0 + List.length xs) (List.append xs sp) ++ ys ++ List.drop (0 + List.length xs + List.length ys) (List.append xs sp)))) then some (List.take (List.length xs + List.length ys) (List.drop 0 (List.take (0 + List.length xs) (List.append xs sp) ++ ys ++ List.drop (0 + List.length xs + List.length ys) (List.append xs sp)))) else none) else (bif (Decidable.decide ((List.length xs + List.length ys) * 48 ≤ 140737488355328)) then some (List.take (List.length xs) (List.drop 0 (List.append xs sp)) ++ ys) else none)) else none) else (bif (Decidable.decide (Go.IntKind.wrap Go.IntKind.i64 ((↑(List.length xs) : Int) + (↑(List.length ys) : Int)) > (↑(List.length (List.append xs sp) - 0) : Int))) then (bif (Decidable.decide (0 ≤ 0) && Decidable.decide (0 ≤ i) && Decidable.decide ((↑0 : Int) + i ≤ (↑(List.length (List.append xs sp)) : Int))) then (bif (Decidable.decide (0 ≤ Go.IntKind.wrap Go.IntKind.i64 (Go.IntKind.wrap Go.IntKind.i64 ((↑(List.length xs) : Int) + (↑(List.length ys) : Int)) - i)) && Decidable.decide (0 + Int.toNat (i - 0) ≤ List.length (List.append xs sp)) && Decidable.decide (List.length (List.append xs sp) < 0 + Int.toNat (i - 0) + Int.toNat (Go.IntKind.wrap Go.IntKind.i64 (Go.IntKind.wrap Go.IntKind.i64 ((↑(List.length xs) : Int) + (↑(List.length ys) : Int)) - i))) && Decidable.decide ((Int.toNat (i - 0) + Int.toNat (Go.IntKind.wrap Go.IntKind.i64 (Go.IntKind.wrap Go.IntKind.i64 ((↑(List.length xs) : Int) + (↑(List.length ys) : Int)) - i))) * 48 ≤ 140737488355328)) then (bif (Decidable.decide (0 ≤ i) && Decidable.decide (i ≤ (↑(List.length (List.take (Int.toNat (i - 0)) (List.drop 0 (List.append xs sp)) ++ List.replicate (Int.toNat (Go.IntKind.wrap Go.IntKind.i64 (Go.IntKind.wrap Go.IntKind.i64 ((↑(List.length xs) : Int) + (↑(List.length ys) : Int)) - i))) (0, 0, 0, []))) : Int)) && Decidable.decide ((↑(List.length (List.take (Int.toNat (i - 0)) (List.drop 0 (List.append xs sp)) ++ List.replicate (Int.toNat (Go.IntKind.wrap Go.IntKind.i64 (Go.IntKind.wrap Go.IntKind.i64 ((↑(List.length xs) : Int) + (↑(List.length ys) : Int)) - i))) (0, 0, 0, []))) : Int) ≤ (↑(List.length (List.take (Int.toNat (i - 0)) (List.drop 0 (List.append xs sp)) ++ List.replicate (Int.toNat (Go.IntKind.wrap Go.IntKind.i64 (Go.IntKind.wrap Go.IntKind.i64 ((↑(List.length xs) : Int) + (↑(List.length ys) : Int)) - i))) (0, 0, 0, []))) : Int))) then (bif (Decidable.decide (Int.toNat i + Int.toNat ((↑(List.length (List.take (Int.toNat (i - 0)) (List.drop 0 (List.append xs sp)) ++ List.replicate (Int.toNat (Go.IntKind.wrap Go.IntKind.i64 (Go.IntKind.wrap Go.IntKind.i64 ((↑(List.length xs) : Int) + (↑(List.length ys) : Int)) - i))) (0, 0, 0, []))) : Int) - i) ≤ List.length (List.take (Int.toNat (i - 0)) (List.drop 0 (List.append xs sp)) ++ List.replicate (Int.toNat (Go.IntKind.wrap Go.IntKind.i64 (Go.IntKind.wrap Go.IntKind.i64 ((↑(List.length xs) : Int) + (↑(List.length ys) : Int)) - i))) (0, 0, 0, [])))) then (bif (Decidable.decide (0 ≤ Go.IntKind.wrap Go.IntKind.i64 (i + (↑(List.length ys) : Int))) && Decidable.decide (Go.IntKind.wrap Go.IntKind.i64 (i + (↑(List.length ys) : Int)) ≤ (↑(List.length (List.take (Int.toNat i) (List.take (Int.toNat (i - 0)) (List.drop 0 (List.append xs sp)) ++ List.replicate (Int.toNat (Go.IntKind.wrap Go.IntKind.i64 (Go.IntKind.wrap Go.IntKind.i64 ((↑(List.length xs) : Int) + (↑(List.length ys) : Int)) - i))) (0, 0, 0, [])) ++ List.take (Int.toNat ((↑(List.length (List.take (Int.toNat (i - 0)) (List.drop 0 (List.append xs sp)) ++ List.replicate (Int.toNat (Go.IntKind.wrap Go.IntKind.i64 (Go.IntKind.wrap Go.IntKind.i64 ((↑(List.length xs) : Int) + (↑(List.length ys) : Int)) - i))) (0, 0, 0, []))) : Int) - i)) ys ++ List.drop (Int.toNat i + Min.min (List.length ys) (Int.toNat ((↑(List.length (List.take (Int.toNat (i - 0)) (List.drop 0 (List.append xs sp)) ++ List.replicate (Int.toNat (Go.IntKind.wrap Go.IntKind.i64 (Go.IntKind.wrap Go.IntKind.i64 ((↑(List.length xs) : Int) + (↑(List.length ys) : Int)) - i))) (0, 0, 0, []))) : Int) - i))) (List.take (Int.toNat (i - 0)) (List.drop 0 (List.append xs sp)) ++ List.replicate (Int.toNat (Go.IntKind.wrap Go.IntKind.i64 (Go.IntKind.wrap Go.IntKind.i64 ((↑(List.length xs) : Int) + (↑(List.length ys) : Int)) - i))) (0, 0, 0, [])))) : Int)) && Decidable.decide ((↑(List.length (List.take (Int.toNat i) (List.take (Int.toNat (i - 0)) (List.drop 0 (List.append xs sp)) ++ List.replicate (Int.toNat (Go.IntKind.wrap Go.IntKind.i64 (Go.IntKind.wrap Go.IntKind.i64 ((↑(List.length xs) : Int) + (↑(List.length ys) : Int)) - i))) (0, 0, 0, [])) ++ List.take (Int.toNat ((↑(List.length (List.take (Int.toNat (i - 0)) (List.drop 0 (List.append xs sp)) ++ List.replicate (Int.toNat (Go.IntKind.wrap Go.IntKind.i64 (Go.IntKind.wrap Go.IntKind.i64 ((↑(List.length xs) : Int) + (↑(List.length ys) : Int)) - i))) (0, 0, 0, []))) : Int) - i)) ys ++ List.drop (Int.toNat i + Min.min (List.length ys) (Int.toNat ((↑(List.length (List.take (Int.toNat (i - 0)) (List.drop 0 (List.append xs sp)) ++ List.replicate (Int.toNat (Go.IntKind.wrap Go.IntKind.i64 (Go.IntKind.wrap Go.IntKind.i64 ((↑(List.length xs) : Int) + (↑(List.length ys) : Int)) - i))) (0, 0, 0, []))) : Int) - i))) (List.take (Int.toNat (i - 0)) (List.drop 0 (List.append xs sp)) ++ List.replicate (Int.toNat (Go.IntKind.wrap Go.IntKind.i64 (Go.IntKind.wrap Go.IntKind.i64 ((↑(List.length xs) : Int) + (↑(List.length ys) : Int)) - i))) (0, 0, 0, [])))) : Int) ≤ (↑(List.length (List.take (Int.toNat i) (List.take (Int.toNat (i - 0)) (List.drop 0 (List.append xs sp)) ++ List.replicate (Int.toNat (Go.IntKind.wrap Go.IntKind.i64 (Go.IntKind.wrap Go.IntKind.i64 ((↑(List.length xs) : Int) + (↑(List.length ys) : Int)) - i))) (0, 0, 0, [])) ++ List.take (Int.toNat ((↑(List.length (List.take (Int.toNat (i - 0)) (List.drop 0 (List.append xs sp)) ++ List.replicate (Int.toNat (Go.IntKind.wrap Go.IntKind.i64 (Go.IntKind.wrap Go.IntKind.i64 ((↑(List.length xs) : Int) + (↑(List.length ys) : Int)) - i))) (0, 0, 0, []))) : Int) - i)) ys ++ List.drop (Int.toNat i + Min.min (List.length ys) (Int.toNat ((↑(List.length (List.take (Int.toNat (i - 0)) (List.drop 0 (List.append xs sp)) ++ List.replicate (Int.toNat (Go.IntKind.wrap Go.IntKind.i64 (Go.IntKind.wrap Go.IntKind.i64 ((↑(List.length xs) : Int) + (↑(List.length ys) : Int)) - i))) (0, 0, 0, []))) : Int) - i))) (List.take (Int.toNat (i - 0)) (List.drop 0 (List.append xs sp)) ++ List.replicate (Int.toNat (Go.IntKind.wrap Go.IntKind.i64 (Go.IntKind.wrap Go.IntKind.i64 ((↑(List.length xs) : Int) + (↑(List.length ys) : Int)) - i))) (0, 0, 0, [])))) : Int))) then (bif (Decidable.decide (0 ≤ i) && Decidable.decide (i ≤ (↑(List.length xs) : Int)) && Decidable.decide ((↑0 : Int) + (↑(List.length xs) : Int) ≤ (↑(List.length (List.append xs sp)) : Int))) then (bif (Decidable.decide (0 + Int.toNat i + Int.toNat ((↑(List.length xs) : Int) - i) ≤ List.length (List.append xs sp))) then (bif (Decidable.decide (Int.toNat (Go.IntKind.wrap Go.IntKind.i64 (i + (↑(List.length ys) : Int))) + Int.toNat ((↑(List.length (List.take (Int.toNat i) (List.take (Int.toNat (i - 0)) (List.drop 0 (List.append xs sp)) ++ List.replicate (Int.toNat (Go.IntKind.wrap Go.IntKind.i64 (Go.IntKind.wrap Go.IntKind.i64 ((↑(List.length xs) : Int) + (↑(List.length ys) : Int)) - i))) (0, 0, 0, [])) ++ List.take (Int.toNat ((↑(List.length (List.take (Int.toNat (i - 0)) (List.drop 0 (List.append xs sp)) ++ List.replicate (Int.toNat (Go.IntKind.wrap Go.IntKind.i64 (Go.IntKind.wrap Go.IntKind.i64 ((↑(List.length xs) : Int) + (↑(List.length ys) : Int)) - i))) (0, 0, 0, []))) : Int) - i)) ys ++ List.drop (Int.toNat i + Min.min (List.length ys) (Int.toNat ((↑(List.length (List.take (Int.toNat (i - 0)) (List.drop 0 (List.append xs sp)) ++ List.replicate (Int.toNat (Go.IntKind.wrap Go.IntKind.i64 (Go.IntKind.wrap Go.IntKind.i64 ((↑(List.length xs) : Int) + (↑(List.length ys) : Int)) - i))) (0, 0, 0, []))) : Int) - i))) (List.take (Int.toNat (i - 0)) (List.drop 0 (List.append xs sp)) ++ List.replicate (Int.toNat (Go.IntKind.wrap Go.IntKind.i64 (Go.IntKind.wrap Go.IntKind.i64 ((↑(List.length xs) : Int) + (↑(List.length ys) : Int)) - i))) (0, 0, 0, [])))) : Int) - Go.IntKind.wrap Go.IntKind.i64 (i + (↑(List.length ys) : Int))) ≤ List.length (List.take (Int.toNat i) (List.take (Int.toNat (i - 0)) (List.drop 0 (List.append xs sp)) ++ List.replicate (Int.toNat (Go.IntKind.wrap Go.IntKind.i64 (Go.IntKind.wrap Go.IntKind.i64 ((↑(List.length xs) : Int) + (↑(List.length ys) : Int)) - i))) (0, 0, 0, [])) ++ List.take (Int.toNat ((↑(List.length (List.take (Int.toNat (i - 0)) (List.drop 0 (List.append xs sp)) ++ List.replicate (Int.toNat (Go.IntKind.wrap Go.IntKind.i64 (Go.IntKind.wrap Go.IntKind.i64 ((↑(List.length xs) : Int) + (↑(List.length ys) : Int)) - i))) (0, 0, 0, []))) : Int) - i)) ys ++ List.drop (Int.toNat i + Min.min (List.length ys) (Int.toNat ((↑(List.length (List.take (Int.toNat (i - 0)) (List.drop 0 (List.append xs sp)) ++ List.replicate (Int.toNat (Go.IntKind.wrap Go.IntKind.i64 (Go.IntKind.wrap Go.IntKind.i64 ((↑(List.length xs) : Int) + (↑(List.length ys) : Int)) - i))) (0, 0, 0, []))) : Int) - i))) (List.take (Int.toNat (i - 0)) (List.drop 0 (List.append xs sp)) ++ List.replicate (Int.toNat (Go.IntKind.wrap Go.IntKind.i64 (Go.IntKind.wrap Go.IntKind.i64 ((↑(List.length xs) : Int) + (↑(List.length ys) : Int)) - i))) (0, 0, 0, []))))) then some (List.take (Int.toNat (Go.IntKind.wrap Go.IntKind.i64 (i + (↑(List.length ys) : Int)))) (List.take (Int.toNat i) (List.take (Int.toNat (i - 0)) (List.drop 0 (List.append xs sp)) ++ List.replicate (Int.toNat (Go.IntKind.wrap Go.IntKind.i64 (Go.IntKind.wrap Go.IntKind.i64 ((↑(List.length xs) : Int) + (↑(List.length ys) : Int)) - i))) (0, 0, 0, [])) ++ List.take (Int.toNat ((↑(List.length (List.take (Int.toNat (i - 0)) (List.drop 0 (List.append xs sp)) ++ List.replicate (Int.toNat (Go.IntKind.wrap Go.IntKind.i64 (Go.IntKind.wrap Go.IntKind.i64 ((↑(List.length xs) : Int) + (↑(List.length ys) : Int)) - i))) (0, 0, 0, []))) : Int) - i)) ys ++ List.drop (Int.toNat i + Min.min (List.length ys) (Int.toNat ((↑(List.length (List.take (Int.toNat (i - 0)) (List.drop 0 (List.append xs sp)) ++ List.replicate (Int.toNat (Go.IntKind.wrap Go.IntKind.i64 (Go.IntKind.wrap Go.IntKind.i64 ((↑(List.length xs) : Int) + (↑(List.length ys) : Int)) - i))) (0, 0, 0, []))) : Int) - i))) (List.take (Int.toNat (i - 0)) (List.drop 0 (List.append xs sp)) ++ List.replicate (Int.toNat (Go.IntKind.wrap Go.IntKind.i64 (Go.IntKind.wrap Go.IntKind.i64 ((↑(List.length xs) : Int) + (↑(List.length ys) : Int)) - i))) (0, 0, 0, []))) ++ List.take (Int.toNat ((↑(List.length (List.take (Int.toNat i) (List.take (Int.toNat (i - 0)) (List.drop 0 (List.append xs sp)) ++ List.replicate (Int.toNat (Go.IntKind.wrap Go.IntKind.i64 (Go.IntKind.wrap Go.IntKind.i64 ((↑(List.length xs) : Int) + (↑(List.length ys) : Int)) - i))) (0, 0, 0, [])) ++ List.take (Int.toNat ((↑(List.length (List.take (Int.toNat (i - 0)) (List.drop 0 (List.append xs sp)) ++ List.replicate (Int.toNat (Go.IntKind.wrap Go.IntKind.i64 (Go.IntKind.wrap Go.IntKind.i64 ((↑(List.length xs) : Int) + (↑(List.length ys) : Int)) - i))) (0, 0, 0, []))) : Int) - i)) ys ++ List.drop (Int.toNat i + Min.min (List.length ys) (Int.toNat ((↑(List.length (List.take (Int.toNat (i - 0)) (List.drop 0 (List.append xs sp)) ++ List.replicate (Int.toNat (Go.IntKind.wrap Go.IntKind.i64 (Go.IntKind.wrap Go.IntKind.i64 ((↑(List.length xs) : Int) + (↑(List.length ys) : Int)) - i))) (0, 0, 0, []))) : Int) - i))) (List.take (Int.toNat (i - 0)) (List.drop 0 (List.append xs sp)) ++ List.replicate (Int.toNat (Go.IntKind.wrap Go.IntKind.i64 (Go.IntKind.wrap Go.IntKind.i64 ((↑(List.length xs) : Int) + (↑(List.length ys) : Int)) - i))) (0, 0, 0, [])))) : Int) - Go.IntKind.wrap Go.IntKind.i64 (i + (↑(List.length ys) : Int)))) (List.take (Int.toNat ((↑(List.length xs) : Int) - i)) (List.drop (0 + Int.toNat i) (List.append xs sp))) ++ List.drop (Int.toNat (Go.IntKind.wrap Go.IntKind.i64 (i + (↑(List.length ys) : Int))) + Min.min (List.length (List.take (Int.toNat ((↑(List.length xs) : Int) - i)) (List.drop (0 + Int.toNat i) (List.append xs sp)))) (Int.toNat ((↑(List.length (List.take (Int.toNat i) (List.take (Int.toNat (i - 0)) (List.drop 0 (List.append xs sp)) ++ List.replicate (Int.toNat (Go.IntKind.wrap Go.IntKind.i64 (Go.IntKind.wrap Go.IntKind.i64 ((↑(List.length xs) : Int) + (↑(List.length ys) : Int)) - i))) (0, 0, 0, [])) ++ List.take (Int.toNat ((↑(List.length (List.take (Int.toNat (i - 0)) (List.drop 0 (List.append xs sp)) ++ List.replicate (Int.toNat (Go.IntKind.wrap Go.IntKind.i64 (Go.IntKind.wrap Go.IntKind.i64 ((↑(List.length xs) : Int) + (↑(List.length ys) : Int)) - i))) (0, 0, 0, []))) : Int) - i)) ys ++ List.drop (Int.toNat i + Min.min (List.length ys) (Int.toNat ((↑(List.length (List.take (Int.toNat (i - 0)) (List.drop 0 (List.append xs sp)) ++ List.replicate (Int.toNat (Go.IntKind.wrap Go.IntKind.i64 (Go.IntKind.wrap Go.IntKind.i64 ((↑(List.length xs) : Int) + (↑(List.length ys) : Int)) - i))) (0, 0, 0, []))) : Int) - i))) (List.take (Int.toNat (i - 0)) (List.drop 0 (List.append xs sp)) ++ List.replicate (Int.toNat (Go.IntKind.wrap Go.IntKind.i64 (Go.IntKind.wrap Go.IntKind.i64 ((↑(List.length xs) : Int) + (↑(List.length ys) : Int)) - i))) (0, 0, 0, [])))) : Int) - Go.IntKind.wrap Go.IntKind.i64 (i + (↑(List.length ys) : Int))))) (List.take (Int.toNat i) (List.take (Int.toNat (i - 0)) (List.drop 0 (List.append xs sp)) ++ List.replicate (Int.toNat (Go.IntKind.wrap Go.IntKind.i64 (Go.IntKind.wrap Go.IntKind.i64 ((↑(List.length xs) : Int) + (↑(List.length ys) : Int)) - i))) (0, 0, 0, [])) ++ List.take (Int.toNat ((↑(List.length (List.take (Int.toNat (i - 0)) (List.drop 0 (List.append xs sp)) ++ List.replicate (Int.toNat (Go.IntKind.wrap Go.IntKind.i64 (Go.IntKind.wrap Go.IntKind.i64 ((↑(List.length xs) : Int) + (↑(List.length ys) : Int)) - i))) (0, 0, 0, []))) : Int) - i)) ys ++ List.drop (Int.toNat i + Min.min (List.length ys) (Int.toNat ((↑(List.length (List.take (Int.toNat (i - 0)) (List.drop 0 (List.append xs sp)) ++ List.replicate (Int.toNat (Go.IntKind.wrap Go.IntKind.i64 (Go.IntKind.wrap Go.IntKind.i64 ((↑(List.length xs) : Int) + (↑(List.length ys) : Int)) - i))) (0, 0, 0, []))) : Int) - i))) (List.take (Int.toNat (i - 0)) (List.drop 0 (List.append xs sp)) ++ List.replicate (Int.toNat (Go.IntKind.wrap Go.IntKind.i64 (Go.IntKind.wrap Go.IntKind.i64 ((↑(List.length xs) : Int) + (↑(List.length ys) : Int)) - i))) (0, 0, 0, [])))) else none) else none) else none) else none) else none) else none) else none) else none) else (bif (Decidable.decide (0 ≤ 0) && Decidable.decide (0 ≤ Go.IntKind.wrap Go.IntKind.i64 ((↑(List.length xs) : Int) + (↑(List.length ys) : Int))) && Decidable.decide ((↑0 : Int) + Go.IntKind.wrap Go.IntKind.i64 ((↑(List.length xs) : Int) + (↑(List.length ys) : Int)) ≤ (↑(List.length (List.append xs sp)) : Int))) then (bif (Decidable.decide (0 ≤ Go.IntKind.wrap Go.IntKind.i64 (i + (↑(List.length ys) : Int))) && Decidable.decide (Go.IntKind.wrap Go.IntKind.i64 (i + (↑(List.length ys) : Int)) ≤ (↑(Int.toNat (Go.IntKind.wrap Go.IntKind.i64 ((↑(List.length xs) : Int) + (↑(List.length ys) : Int)) - 0)) : Int)) && Decidable.decide ((↑0 : Int) + (↑(Int.toNat (Go.IntKind.wrap Go.IntKind.i64 ((↑(List.length xs) : Int) + (↑(List.length ys) : Int)) - 0)) : Int) ≤ (↑(List.length (List.append xs sp)) : Int))) then (bif (Decidable.decide (0 ≤ Go.IntKind.wrap Go.IntKind.i64 (i + (↑(List.length ys) : Int))) && Decidable.decide (Go.IntKind.wrap Go.IntKind.i64 (i + (↑(List.length ys) : Int)) ≤ (↑(Int.toNat (Go.IntKind.wrap Go.IntKind.i64 ((↑(List.length xs) : Int) + (↑(List.length ys) : Int)) - 0)) : Int)) && Decidable.decide ((↑0 : Int) + (↑(Int.toNat (Go.IntKind.wrap Go.IntKind.i64 ((↑(List.length xs) : Int) + (↑(List.length ys) : Int)) - 0)) : Int) ≤ (↑(List.length (List.append xs sp)) : Int))) then (bif (Decidable.decide (0 ≤ i) && Decidable.decide (i ≤ (↑(Int.toNat (Go.IntKind.wrap Go.IntKind.i64 ((↑(List.length xs) : Int) + (↑(List.length ys) : Int)) - 0)) : Int)) && Decidable.decide ((↑0 : Int) + (↑(Int.toNat (Go.IntKind.wrap Go.IntKind.i64 ((↑(List.length xs) : Int) + (↑(List.length ys) : Int)) - 0)) : Int) ≤ (↑(List.length (List.append xs sp)) : Int))) then (bif (Decidable.decide (0 + Int.toNat i + Int.toNat ((↑(Int.toNat (Go.IntKind.wrap Go.IntKind.i64 ((↑(List.length xs) : Int) + (↑(List.length ys) : Int)) - 0)) : Int) - i) ≤ List.length (List.append xs sp))) then (bif (Decidable.decide (0 + Int.toNat (Go.IntKind.wrap Go.IntKind.i64 (i + (↑(List.length ys) : Int))) + Int.toNat ((↑(Int.toNat (Go.IntKind.wrap Go.IntKind.i64 ((↑(List.length xs) : Int) + (↑(List.length ys) : Int)) - 0)) : Int) - Go.IntKind.wrap Go.IntKind.i64 (i + (↑(List.length ys) : Int))) ≤ List.length (List.append xs sp))) then (bif (Decidable.decide (0 ≤ i) && Decidable.decide (i ≤ (↑(Int.toNat (Go.IntKind.wrap Go.IntKind.i64 ((↑(List.length xs) : Int) + (↑(List.length ys) : Int)) - 0)) : Int)) && Decidable.decide ((↑0 : Int) + (↑(Int.toNat (Go.IntKind.wrap Go.IntKind.i64 ((↑(List.length xs) : Int) + (↑(List.length ys) : Int)) - 0)) : Int) ≤ (↑(List.length (List.take (0 + Int.toNat (Go.IntKind.wrap Go.IntKind.i64 (i + (↑(List.length ys) : Int)))) (List.append xs sp) ++ List.take (Int.toNat ((↑(Int.toNat (Go.IntKind.wrap Go.IntKind.i64 ((↑(List.length xs) : Int) + (↑(List.length ys) : Int)) - 0)) : Int) - Go.IntKind.wrap Go.IntKind.i64 (i + (↑(List.length ys) : Int)))) (List.take (Int.toNat ((↑(Int.toNat (Go.IntKind.wrap Go.IntKind.i64 ((↑(List.length xs) : Int) + (↑(List.length ys) : Int)) - 0)) : Int) - i)) (List.drop (0 + Int.toNat i) (List.append xs sp))) ++ List.drop (0 + Int.toNat (Go.IntKind.wrap Go.IntKind.i64 (i + (↑(List.length ys) : Int))) + Min.min (List.length (List.take (Int.toNat ((↑(Int.toNat (Go.IntKind.wrap Go.IntKind.i64 ((↑(List.length xs) : Int) + (↑(List.length ys) : Int)) - 0)) : Int) - i)) (List.drop (0 + Int.toNat i) (List.append xs sp)))) (Int.toNat ((↑(Int.toNat (Go.IntKind.wrap Go.IntKind.i64 ((↑(List.length xs) : Int) + (↑(List.length ys) : Int)) - 0)) : Int) - Go.IntKind.wrap Go.IntKind.i64 (i + (↑(List.length ys) : Int))))) (List.append xs sp))) : Int))) then (bif (Decidable.decide (0 + Int.toNat i + Int.toNat ((↑(Int.toNat (Go.IntKind.wrap Go.IntKind.i64 ((↑(List.length xs) : Int) + (↑(List.length ys) : Int)) - 0)) : Int) - i) ≤ List.length (List.take (0 + Int.toNat (Go.IntKind.wrap Go.IntKind.i64 (i + (↑(List.length ys) : Int)))) (List.append xs sp) ++ List.take (Int.toNat ((↑(Int.toNat (Go.IntKind.wrap Go.IntKind.i64 ((↑(List.length xs) : Int) + (↑(List.length ys) : Int)) - 0)) : Int) - Go.IntKind.wrap Go.IntKind.i64 (i + (↑(List.length ys) : Int)))) (List.take (Int.toNat ((↑(Int.toNat (Go.IntKind.wrap Go.IntKind.i64 ((↑(List.length xs) : Int) + (↑(List.length ys) : Int)) - 0)) : Int) - i)) (List.drop (0 + Int.toNat i) (List.append xs sp))) ++ List.drop (0 + Int.toNat (Go.IntKind.wrap Go.IntKind.i64 (i + (↑(List.length ys) : Int))) + Min.min (List.length (List.take (Int.toNat ((↑(Int.toNat (Go.IntKind.wrap Go.IntKind.i64 ((↑(List.length xs) : Int) + (↑(List.length ys) : Int)) - 0)) : Int) - i)) (List.drop (0 + Int.toNat i) (List.append xs sp)))) (Int.toNat ((↑(Int.toNat (Go.IntKind.wrap Go.IntKind.i64 ((↑(List.length xs) : Int) + (↑(List.length ys) : Int)) - 0)) : Int) - Go.IntKind.wrap Go.IntKind.i64 (i + (↑(List.length ys) : Int))))) (List.append xs sp)))) then (bif (Decidable.decide (0 + Int.toNat (Go.IntKind.wrap Go.IntKind.i64 ((↑(List.length xs) : Int) + (↑(List.length ys) : Int)) - 0) ≤ List.length (List.take (0 + Int.toNat i) (List.take (0 + Int.toNat (Go.IntKind.wrap Go.IntKind.i64 (i + (↑(List.length ys) : Int)))) (List.append xs sp) ++ List.take (Int.toNat ((↑(Int.toNat (Go.IntKind.wrap Go.IntKind.i64 ((↑(List.length xs) : Int) + (↑(List.length ys) : Int)) - 0)) : Int) - Go.IntKind.wrap Go.IntKind.i64 (i + (↑(List.length ys) : Int)))) (List.take (Int.toNat ((↑(Int.toNat (Go.IntKind.wrap Go.IntKind.i64 ((↑(List.length xs) : Int) + (↑(List.length ys) : Int)) - 0)) : Int) - i)) (List.drop (0 + Int.toNat i) (List.append xs sp))) ++ List.drop (0 + Int.toNat (Go.IntKind.wrap Go.IntKind.i64 (i + (↑(List.length ys) : Int))) + Min.min (List.length (List.take (Int.toNat ((↑(Int.toNat (Go.IntKind.wrap Go.IntKind.i64 ((↑(List.length xs) : Int) + (↑(List.length ys) : Int)) - 0)) : Int) - i)) (List.drop (0 + Int.toNat i) (List.append xs sp)))) (Int.toNat ((↑(Int.toNat (Go.IntKind.wrap Go.IntKind.i64 ((↑(List.length xs) : Int) + (↑(List.length ys) : Int)) - 0)) : Int) - Go.IntKind.wrap Go.IntKind.i64 (i + (↑(List.length ys) : Int))))) (List.append xs sp)) ++ List.take (Int.toNat ((↑(Int.toNat (Go.IntKind.wrap Go.IntKind.i64 ((↑(List.length xs) : Int) + (↑(List.length ys) : Int)) - 0)) : Int) - i)) ys ++ List.drop (0 + Int.toNat i + Min.min (List.length ys) (Int.toNat ((↑(Int.toNat (Go.IntKind.wrap Go.IntKind.i64 ((↑(List.length xs) : Int) + (↑(List.length ys) : Int)) - 0)) : Int) - i))) (List.take (0 + Int.toNat (Go.IntKind.wrap Go.IntKind.i64 (i + (↑(List.length ys) : Int)))) (List.append xs sp) ++ List.take (Int.toNat ((↑(Int.toNat (Go.IntKind.wrap Go.IntKind.i64 ((↑(List.length xs) : Int) + (↑(List.length ys) : Int)) - 0)) : Int) - Go.IntKind.wrap Go.IntKind.i64 (i + (↑(List.length ys) : Int)))) (List.take (Int.toNat ((↑(Int.toNat (Go.IntKind.wrap Go.IntKind.i64 ((↑(List.length xs) : Int) + (↑(List.length ys) : Int)) - 0)) : Int) - i)) (List.drop (0 + Int.toNat i) (List.append xs sp))) ++ List.drop (0 + Int.toNat (Go.IntKind.wrap Go.IntKind.i64 (i + (↑(List.length ys) : Int))) + Min.min (List.length (List.take (Int.toNat ((↑(Int.toNat (Go.IntKind.wrap Go.IntKind.i64 ((↑(List.length xs) : Int) + (↑(List.length ys) : Int)) - 0)) : Int) - i)) (List.drop (0 + Int.toNat i) (List.append xs sp)))) (Int.toNat ((↑(Int.toNat (Go.IntKind.wrap Go.IntKind.i64 ((↑(List.length xs) : Int) + (↑(List.length ys) : Int)) - 0)) : Int) - Go.IntKind.wrap Go.IntKind.i64 (i + (↑(List.length ys) : Int))))) (List.append xs sp))))) then some (List.take (Int.toNat (Go.IntKind.wrap Go.IntKind.i64 ((↑(List.length xs) : Int) + (↑(List.length ys) : Int)) - 0)) (List.drop 0 (List.take (0 + Int.toNat i) (List.take (0 + Int.toNat (Go.IntKind.wrap Go.IntKind.i64 (i + (↑(List.length ys) : Int)))) (List.append xs sp) ++ List.take (Int.toNat ((↑(Int.toNat (Go.IntKind.wrap Go.IntKind.i64 ((↑(List.length xs) : Int) + (↑(List.length ys) : Int)) - 0)) : Int) - Go.IntKind.wrap Go.IntKind.i64 (i + (↑(List.length ys) : Int)))) (List.take (Int.toNat ((↑(Int.toNat (Go.IntKind.wrap Go.IntKind.i64 ((↑(List.length xs) : Int) + (↑(List.length ys) : Int)) - 0)) : Int) - i)) (List.drop (0 + Int.toNat i) (List.append xs sp))) ++ List.drop (0 + Int.toNat (Go.IntKind.wrap Go.IntKind.i64 (i + (↑(List.length ys) : Int))) + Min.min (List.length (List.take (Int.toNat ((↑(Int.toNat (Go.IntKind.wrap Go.IntKind.i64 ((↑(List.length xs) : Int) + (↑(List.length ys) : Int)) - 0)) : Int) - i)) (List.drop (0 + Int.toNat i) (List.append xs sp)))) (Int.toNat ((↑(Int.toNat (Go.IntKind.wrap Go.IntKind.i64 ((↑(List.length xs) : Int) + (↑(List.length ys) : Int)) - 0)) : Int) - Go.IntKind.wrap Go.IntKind.i64 (i + (↑(List.length ys) : Int))))) (List.append xs sp)) ++ List.take (Int.toNat ((↑(Int.toNat (Go.IntKind.wrap Go.IntKind.i64 ((↑(List.length xs) : Int) + (↑(List.length ys) : Int)) - 0)) : Int) - i)) ys ++ List.drop (0 + Int.toNat i + Min.min (List.length ys) (Int.toNat ((↑(Int.toNat (Go.IntKind.wrap Go.IntKind.i64 ((↑(List.length xs) : Int) + (↑(List.length ys) : Int)) - 0)) : Int) - i))) (List.take (0 + Int.toNat (Go.IntKind.wrap Go.IntKind.i64 (i + (↑(List.length ys) : Int)))) (List.append xs sp) ++ List.take (Int.toNat ((↑(Int.toNat (Go.IntKind.wrap Go.IntKind.i64 ((↑(List.length xs) : Int) + (↑(List.length ys) : Int)) - 0)) : Int) - Go.IntKind.wrap Go.IntKind.i64 (i + (↑(List.length ys) : Int)))) (List.take (Int.toNat ((↑(Int.toNat (Go.IntKind.wrap Go.IntKind.i64 ((↑(List.length xs) : Int) + (↑(List.length ys) : Int)) - 0)) : Int) - i)) (List.drop (0 + Int.toNat i) (List.append xs sp))) ++ List.drop (0 + Int.toNat (Go.IntKind.wrap Go.IntKind.i64 (i + (↑(List.length ys) : Int))) + Min.min (List.length (List.take (Int.toNat ((↑(Int.toNat (Go.IntKind.wrap Go.IntKind.i64 ((↑(List.length xs) : Int) + (↑(List.length ys) : Int)) - 0)) : Int) - i)) (List.drop (0 + Int.toNat i) (List.append xs sp)))) (Int.toNat ((↑(Int.toNat (Go.IntKind.wrap Go.IntKind.i64 ((↑(List.length xs) : Int) + (↑(List.length ys) : Int)) - 0)) : Int) - Go.IntKind.wrap Go.IntKind.i64 (i + (↑(List.length ys) : Int))))) (List.append xs sp))))) else none) else none) else none) else none) else none) else none) else none) else none) else none)))) else none) := (lim_step _ _ _ _ _ _).trans (by kernel_rfl)
end Go.Proofs.Ytdbhfpngfjlgjaa

/- slices.Insert at a row whose room is known: what it comes to. -/
set_option linter.unusedSimpArgs false
namespace Go.Proofs.Ytdbhfpngfjlgjaa
open Go Go.Sk
abbrev B := El (.pair (.int .i64) (.pair (.int .i64) (.pair (.int .i64) (.slice (.pair (.int .i64) (.pair (.int .i64) (.pair (.slice (.int .i64)) (.pair (.pair (.int .i64) (.int .i64)) (.pair (.int .i64) (.pair (.int .i64) (.pair .str .bool)))))))))))
theorem wrap_nat {n : Int} (h0 : 0 ≤ n) (h1 : n ≤ 1407374883553280) : IntKind.i64.wrap n = n := by
  have e : IntKind.i64.wrap n = (if (n % 18446744073709551616 : Int) ≥ 9223372036854775808 then n % 18446744073709551616 - 18446744073709551616 else n % 18446744073709551616) := by
    unfold IntKind.wrap
    simp [IntKind.bits, IntKind.signed]
  rw [e]
  split <;> omega
theorem copy_mid {α : Type} (p q r ys : List α) (n k m : Nat) (hn : p.length = n) (hq : q.length = ys.length) (hk : ys.length ≤ k) (hm : m = ys.length) : List.take n (p ++ (q ++ r)) ++ List.take k ys ++ List.drop (n + m) (p ++ (q ++ r)) = p ++ (ys ++ r) := by
  subst hn
  subst hm
  rw [List.take_left, List.take_of_length_le hk, ← List.append_assoc p q r, show p.length + ys.length = (p ++ q).length by rw [List.length_append, hq], List.drop_left, List.append_assoc]
theorem insert_ab (a b sp ys : List B) (hy : 0 < ys.length) (hb : (a.length + b.length + ys.length) * 48 ≤ 140737488355328) : room_Insert.f (a ++ b) sp ys a.length = some (a ++ ys ++ b) := by
  rw [room_Insert.f_eq]
  have ea : List.append (a ++ b) sp = a ++ (b ++ sp) := by show (a ++ b) ++ sp = _; rw [List.append_assoc]
  have w0 : ((a ++ b).length : Int) = ((a.length + b.length : Nat) : Int) := by rw [List.length_append]
  have w1 : IntKind.i64.wrap (((a.length + b.length : Nat) : Int) + (ys.length : Int)) = ((a.length + b.length + ys.length : Nat) : Int) := by rw [wrap_nat (by omega) (by omega)]; omega
  have w2 : IntKind.i64.wrap (((a.length + b.length + ys.length : Nat) : Int) - (a.length : Int)) = ((b.length + ys.length : Nat) : Int) := by rw [wrap_nat (by omega) (by omega)]; omega
  have w3 : IntKind.i64.wrap ((a.length : Int) + (ys.length : Int)) = ((a.length + ys.length : Nat) : Int) := by rw [wrap_nat (by omega) (by omega)]; omega
  have y0 : (((ys.length : Nat) : Int) == 0) = false := beq_eq_false_iff_ne.2 (by omega)
  simp only [ea, w0, w1, w2, w3, y0, cond_false, Nat.sub_zero, Int.sub_zero, Int.toNat_natCast, Nat.zero_add, Int.toNat_sub, List.drop_zero]
  by_cases hb0 : b = []
  · subst hb0
    rw [show (((a.length : Nat) : Int) == ((a.length + [].length : Nat) : Int)) = true by simp, cond_true]
    simp only [List.length_nil, Nat.add_zero, List.append_nil, List.nil_append, List.length_append, List.take_left', List.take_left]
    simp only [← Bool.decide_and, cond_dec]
    by_cases hr : ys.length ≤ sp.length
    · repeat rw [if_pos (by simp <;> omega)]
    · rw [if_pos (by omega), if_pos (by omega), if_neg (by omega), if_pos (by omega)]
  · have hbl : 0 < b.length := List.length_pos_iff.2 hb0
    rw [show (((a.length : Nat) : Int) == ((a.length + b.length : Nat) : Int)) = false from beq_eq_false_iff_ne.2 (by omega), cond_false]
    simp only [← Bool.decide_and, cond_dec]
    rw [if_pos (by simp <;> omega)]
    by_cases hr : b.length + sp.length < b.length + ys.length
    · rw [if_pos (by simp <;> omega), if_pos (by simp <;> omega)]
      simp only [List.take_left]
      have hS : ∀ z : B, (a ++ List.replicate (b.length + ys.length) z).length = a.length + (b.length + ys.length) := fun z => by simp
      have hR : ∀ z : B, List.replicate (b.length + ys.length) z = List.replicate ys.length z ++ List.replicate b.length z := fun z => by rw [List.replicate_append_replicate, Nat.add_comm]
      have e2 : ∀ z : B, List.take a.length (a ++ List.replicate (b.length + ys.length) z) ++ List.take (b.length + ys.length) ys ++ List.drop (a.length + min ys.length (b.length + ys.length)) (a ++ List.replicate (b.length + ys.length) z) = a ++ (ys ++ List.replicate b.length z) := fun z => by
        rw [hR]
        exact copy_mid a _ _ ys _ _ _ rfl (by simp) (by omega) (by omega)
      have e2' := e2 (0, 0, 0, [])
      have hS' := hS (0, 0, 0, [])
      simp only [List.take_left] at e2'
      simp only [hS', Nat.add_sub_cancel_left, e2']
      have e3 : List.take b.length (List.drop a.length (a ++ (b ++ sp))) = b := by rw [List.drop_left, List.take_left]
      simp only [e3]
      have e5 : ∀ z : B, (a ++ (ys ++ List.replicate b.length z)).length = a.length + ys.length + b.length := fun z => by simp; omega
      have e5' := e5 (0, 0, 0, [])
      simp only [e5', Nat.add_sub_cancel_left]
      have e6 : ∀ z : B, List.take (a.length + ys.length) (a ++ (ys ++ List.replicate b.length z)) ++ List.take b.length b ++ List.drop (a.length + ys.length + min b.length b.length) (a ++ (ys ++ List.replicate b.length z)) = a ++ (ys ++ b) := fun z => by
        have := copy_mid (a ++ ys) (List.replicate b.length z) [] b (a.length + ys.length) b.length (min b.length b.length) (by simp) (by simp) (Nat.le_refl _) (by omega)
        simpa using this
      have e6' := e6 (0, 0, 0, [])
      simp only [e6']
      repeat rw [if_pos (by first | omega | (simp <;> omega))]
      congr 1
      simp
    · rw [if_neg (by simp <;> omega)]
      obtain ⟨s1, s2, rfl, hs1⟩ : ∃ s1 s2, sp = s1 ++ s2 ∧ s1.length = ys.length := ⟨sp.take ys.length, sp.drop ys.length, (List.take_append_drop _ _).symm, by rw [List.length_take]; omega⟩
      obtain ⟨c, hc, ec⟩ : ∃ c : List B, c.length = ys.length ∧ List.take (a.length + ys.length) (a ++ (b ++ (s1 ++ s2))) = a ++ c := ⟨(b ++ (s1 ++ s2)).take ys.length, by simp; omega, by rw [List.take_length_add_append]⟩
      have k1 : a.length + b.length + ys.length - a.length = b.length + ys.length := by omega
      have k2 : a.length + b.length + ys.length - (a.length + ys.length) = b.length := by omega
      have e1 : List.take (b.length + ys.length) (List.drop a.length (a ++ (b ++ (s1 ++ s2)))) = b ++ s1 := by
        rw [List.drop_left, List.take_length_add_append, ← hs1, List.take_left]
      have e2 : List.take b.length (b ++ s1) = b := List.take_left
      have e3 : List.drop (a.length + ys.length + min (b ++ s1).length b.length) (a ++ (b ++ (s1 ++ s2))) = s2 := by
        rw [show a.length + ys.length + min (b ++ s1).length b.length = a.length + (b.length + s1.length) by rw [List.length_append]; omega, List.drop_length_add_append, List.drop_length_add_append, List.drop_left]
      simp only [k1, k2, e1, e2, e3, ec]
      have eT : a ++ c ++ b ++ s2 = a ++ (c ++ (b ++ s2)) := by simp
      have e4 : List.take a.length (a ++ c ++ b ++ s2) ++ List.take (b.length + ys.length) ys ++ List.drop (a.length + min ys.length (b.length + ys.length)) (a ++ c ++ b ++ s2) = a ++ (ys ++ (b ++ s2)) := by
        rw [eT]
        exact copy_mid a c (b ++ s2) ys _ _ _ rfl hc (by omega) (by omega)
      simp only [e4]
      repeat rw [if_pos (by first | omega | (simp <;> omega))]
      congr 1
      rw [← List.append_assoc ys b s2, ← List.append_assoc a, show a.length + b.length + ys.length = (a ++ (ys ++ b)).length by simp; omega, List.take_left, List.append_assoc]
theorem insert_eq (xs sp ys : List B) (i : Int) (h0 : 0 ≤ i) (hi : i ≤ xs.length) (hy : 0 < ys.length) (hb : (xs.length + ys.length) * 48 ≤ 140737488355328) : room_Insert.f xs sp ys i = some (xs.take i.toNat ++ ys ++ xs.drop i.toNat) := by
  have hl : (xs.take i.toNat).length = i.toNat := by rw [List.length_take]; omega
  have := insert_ab (xs.take i.toNat) (xs.drop i.toNat) sp ys hy (by rw [← List.length_append, List.take_append_drop]; exact hb)
  rw [List.take_append_drop, hl, Int.toNat_of_nonneg h0] at this
  exact this
end Go.Proofs.Ytdbhfpngfjlgjaa

/- The functions, as limits of the evaluator: printed by a program. -/
set_option linter.unusedVariables false
namespace Go.Proofs.Ytdbhfpngfjlgjaa
open Go Go.Sk

/-- slices.Clone[[]int,int] -/
noncomputable def chk_slices_Clone.f (b : Bool) (s : (List Int)) : Option (List Int) := callX Try.prog cfg0 33 [(.one (.chk b (.int .i64) s))] [] ⟨[.one (.own (.int .i64))], 0⟩
/-- slices.Clone[[]skirmish/api.Command,skirmish/api.Command] -/
noncomputable def chk_slices_Clone_1.f (b : Bool) (s : (List CmdT)) : Option (List CmdT) := callX Try.prog cfg0 43 [(.one (.chk b cCmd s))] [] ⟨[.one (.own cCmd)], 0⟩
/-- slices.Clone[[]skirmish/api.Batch,skirmish/api.Batch] -/
noncomputable def chk_slices_Clone_2.f (b : Bool) (s : (List BatchT)) : Option (List BatchT) := callX Try.prog cfg0 62 [(.one (.chk b cBatch s))] [] ⟨[.one (.own cBatch)], 0⟩
end Go.Proofs.Ytdbhfpngfjlgjaa

/- The functions' equations: printed by a program. -/
set_option linter.unusedVariables false
set_option maxRecDepth 100000
set_option maxHeartbeats 4000000
namespace Go.Proofs.Ytdbhfpngfjlgjaa
open Go Go.Sk

theorem chk_slices_Clone.f_eq (b : Bool) (s : (List Int)) : chk_slices_Clone.f b s = (bif (b) then some ([]) else (bif (Decidable.decide ((0 + List.length s) * 8 ≤ 140737488355328)) then some ([] ++ s) else none)) := (lim_step _ _ _ _ _ _).trans (by kernel_rfl)
theorem chk_slices_Clone_1.f_eq (b : Bool) (s : (List CmdT)) : chk_slices_Clone_1.f b s = (bif (b) then some ([]) else (bif (Decidable.decide ((0 + List.length s) * 96 ≤ 140737488355328)) then some ([] ++ s) else none)) := (lim_step _ _ _ _ _ _).trans (by kernel_rfl)
theorem chk_slices_Clone_2.f_eq (b : Bool) (s : (List BatchT)) : chk_slices_Clone_2.f b s = (bif (b) then some ([]) else (bif (Decidable.decide ((0 + List.length s) * 48 ≤ 140737488355328)) then some ([] ++ s) else none)) := (lim_step _ _ _ _ _ _).trans (by kernel_rfl)
end Go.Proofs.Ytdbhfpngfjlgjaa

/- What is told of slices.Insert and slices.Clone holds of the given code. -/
namespace Go.Proofs.Ytdbhfpngfjlgjaa
open Go Go.Sk
theorem overlaps_fn : ApartFn Try.prog 65 := ⟨Try.f65, 23, 4, 35, 4, Try.func65, by kernel_rfl, by kernel_rfl, by kernel_rfl, by kernel_rfl, Try.underlying23, fun w => by kernel_rfl⟩
theorem apart_fns (g : FuncId) (h : refB g = .apart) : ApartFn Try.prog g := by
  unfold refB at h
  split at h <;> first | (cases h; done) | exact overlaps_fn
theorem prim_ok0 : PrimOk Try.prog cfg0 := ⟨fun g vs m ρ x h => (by cases h), apart_fns⟩
theorem clone_out {α : Type} (b : Bool) (xs : List α) (k : Nat) (hb : b = true → xs = []) (hg : xs.length * k ≤ 140737488355328) : (bif b then some [] else (bif decide ((0 + xs.length) * k ≤ 140737488355328) then some ([] ++ xs) else none)) = some xs := by
  cases b with
  | true => rw [hb rfl]; rfl
  | false => rw [Nat.zero_add, decide_eq_true hg]; rfl
theorem prim_ok : PrimOk Try.prog cfg := by
  refine ⟨fun g vs m ρ x h => ?_, apart_fns⟩
  unfold cfg at h
  simp only [primB] at h
  split at h
  · refine ⟨clonePrim_spec (fun b xs hb hg => ?_) h, _, _, Try.func33, rfl, by kernel_rfl⟩
    have e : callF Try.prog cfg0 33 [.one (.chk b (.int .i64) xs)] [] ⟨[.one (.own (.int .i64))], 0⟩ = some xs := (chk_slices_Clone.f_eq b xs).trans (clone_out b xs 8 hb hg)
    exact (callF_sound (C := cfg0) (by kernel_rfl) (by kernel_rfl) prim_ok0 e).1
  · refine ⟨clonePrim_spec (fun b xs hb hg => ?_) h, _, _, Try.func43, rfl, by kernel_rfl⟩
    have e : callF Try.prog cfg0 43 [.one (.chk b cCmd xs)] [] ⟨[.one (.own cCmd)], 0⟩ = some xs := (chk_slices_Clone_1.f_eq b xs).trans (clone_out b xs 96 hb hg)
    exact (callF_sound (C := cfg0) (by kernel_rfl) (by kernel_rfl) prim_ok0 e).1
  · refine ⟨clonePrim_spec (fun b xs hb hg => ?_) h, _, _, Try.func62, rfl, by kernel_rfl⟩
    have e : callF Try.prog cfg0 62 [.one (.chk b cBatch xs)] [] ⟨[.one (.own cBatch)], 0⟩ = some xs := (chk_slices_Clone_2.f_eq b xs).trans (clone_out b xs 48 hb hg)
    exact (callF_sound (C := cfg0) (by kernel_rfl) (by kernel_rfl) prim_ok0 e).1
  · refine ⟨insPrim_spec (fun xs ys sp i h0 hi hy hb => ?_) h, _, _, Try.func44, rfl, by kernel_rfl⟩
    have e := insert_eq xs sp ys i h0 hi hy hb
    exact (callF_sound (C := cfg0) (by kernel_rfl) (by kernel_rfl) prim_ok0 e).1
  · cases h
end Go.Proofs.Ytdbhfpngfjlgjaa

/- The functions' equations, all parts. -/


/- What the helpers of the layer come to: lists of players, comparisons, copies. -/
set_option linter.unusedVariables false
set_option linter.unusedSimpArgs false
namespace Go.Proofs.Ytdbhfpngfjlgjaa
open Go Go.Sk

abbrev lim48 : Nat := 2000000
/-! ### lists of players -/
theorem index_eq (s : List Int) (v : Int) (hs : s.length ≤ lim48) : slices_Index.f s v = some (pos1 (s.findIdx? fun x => v == x)) := by
  unfold lim48 at hs
  rw [slices_Index.f_eq, find_loop s (fun i => slices_Index.j0 s v s.length i) (fun x => v == x) (fun k => (k : Int)) (some (-1)) (fun k hk => ?hF) ?hE]
  · exact found_pos _
  case hF =>
    rw [slices_Index.j0_eq, lt_true hk, cond_true, idx_nat, List.getElem?_eq_getElem hk, Option.bind_some, wr_succ hk (by omega)]
  case hE =>
    rw [slices_Index.j0_eq, lt_false (Nat.le_refl _), cond_false]
theorem contains_eq (s : List Int) (v : Int) (hs : s.length ≤ lim48) : slices_Contains.f s v = some (s.any fun x => v == x) := by
  rw [slices_Contains.f_eq, index_eq s v hs, Option.bind_some, findIdx_ge]
theorem has_eq (s : List Int) (v : Int) (hs : s.length ≤ lim48) : ref49_has.f s v = some (s.any fun x => v == x) := by
  unfold lim48 at hs
  rw [ref49_has.f_eq, any_loop s (fun i => ref49_has.j0 s v i) (fun x => v == x) true (some false) (fun k hk => ?hF) ?hE]
  · cases s.any (fun x => v == x) <;> rfl
  case hF =>
    rw [ref49_has.j0_eq, lt_true hk, cond_true, idx_nat, List.getElem?_eq_getElem hk, Option.bind_some, wr_succ hk (by omega)]
    rw [show (s[k] == v) = (v == s[k]) from Bool.beq_comm]
  case hE =>
    rw [ref49_has.j0_eq, lt_false (Nat.le_refl _), cond_false]

/-! ### equal lists -/
theorem slEqual_eq (a b : List Int) (ha : a.length ≤ lim48) : slices_Equal.f a b = some (decide (a = b)) := by
  unfold lim48 at ha
  rw [slices_Equal.f_eq]
  cases hl : ((a.length : Int) != (b.length : Int)) with
  | true => rw [cond_true, decide_eq_false fun h => (len_ne a b).1 hl (by rw [h])]
  | false =>
    have hl' := len_eq hl
    rw [cond_false]
    obtain ⟨r, h1, h2⟩ := equal_loop a b hl' (fun i => slices_Equal.j0 a b a.length i) (fun k h1 h2 => by
      rw [slices_Equal.j0_eq, lt_true h1, cond_true, idx_nat, idx_nat, List.getElem?_eq_getElem h1, List.getElem?_eq_getElem h2, Option.bind_some, Option.bind_some, wr_succ h1 (by omega)]
      exact ⟨fun h => by rw [bne_iff_ne.2 h]; rfl, fun h => by rw [h, bne_self_eq_false]; rfl⟩) (by
      rw [slices_Equal.j0_eq, lt_false (Nat.le_refl _), cond_false])
    exact h1.trans (some_iff h2)
theorem samePlayers_eq (a b : List Int) (ha : a.length ≤ lim48) : ref49_SamePlayers.f a b = some (decide (a = b)) := by
  unfold lim48 at ha
  rw [ref49_SamePlayers.f_eq]
  cases hl : ((a.length : Int) != (b.length : Int)) with
  | true => rw [cond_true, decide_eq_false fun h => (len_ne a b).1 hl (by rw [h])]
  | false =>
    have hl' := len_eq hl
    rw [cond_false]
    obtain ⟨r, h1, h2⟩ := equal_loop a b hl' (fun i => ref49_SamePlayers.j0 a b i) (fun k h1 h2 => by
      rw [ref49_SamePlayers.j0_eq, lt_true h1, cond_true, idx_nat, idx_nat, List.getElem?_eq_getElem h1, List.getElem?_eq_getElem h2, Option.bind_some, Option.bind_some, wr_succ h1 (by omega)]
      exact ⟨fun h => by rw [bne_iff_ne.2 h]; rfl, fun h => by rw [h, bne_self_eq_false]; rfl⟩) (by
      rw [ref49_SamePlayers.j0_eq, lt_false (Nat.le_refl _), cond_false])
    exact h1.trans (some_iff h2)

/-! ### copies -/
theorem clone_int (s : List Int) (hs : s.length ≤ lim48) : slices_Clone.f s = some s := by
  unfold lim48 at hs
  have e : cfg.prim 33 [(.one (.slc (.int .i64) s))] [] ⟨[.one (.own (.int .i64))], 0⟩ = some s := if_pos (by show s.length * 8 ≤ _; omega)
  unfold slices_Clone.f callX orPrim
  rw [e]
  rfl
theorem clone_cmd (s : List CmdT) (hs : s.length ≤ lim48) : slices_Clone_1.f s = some s := by
  unfold lim48 at hs
  have e : cfg.prim 43 [(.one (.slc cCmd s))] [] ⟨[.one (.own cCmd)], 0⟩ = some s := if_pos (by show List.length (α := CmdT) s * 96 ≤ _; omega)
  unfold slices_Clone_1.f callX orPrim
  rw [e]
  rfl
theorem clone_batch (s : List BatchT) (hs : s.length ≤ lim48) : slices_Clone_2.f s = some s := by
  unfold lim48 at hs
  have e : cfg.prim 62 [(.one (.slc cBatch s))] [] ⟨[.one (.own cBatch)], 0⟩ = some s := if_pos (by show List.length (α := BatchT) s * 48 ≤ _; omega)
  unfold slices_Clone_2.f callX orPrim
  rw [e]
  rfl
theorem gclone_eq (g : GateT) (h1 : g.2.1.length ≤ lim48) (h2 : g.2.2.length ≤ lim48) : gate_clone.f g = some (g.1, g.2.1, g.2.2, ()) := by
  rw [gate_clone.f_eq, clone_int _ h1, clone_batch _ h2]
  rfl
theorem insert_at (i : Int) (xs ys : List BatchT) (h0 : 0 ≤ i) (hi : i ≤ xs.length) (hy : 0 < ys.length) (hb : xs.length + ys.length ≤ lim48) : slices_Insert.f i xs ys = some (xs.take i.toNat ++ ys ++ xs.drop i.toNat) := by
  unfold lim48 at hb
  have e : cfg.prim 44 [(.one (.osl 1)), (.one (.int .i64 i)), (.one (.osl 2))] [(.ghost []), (.row cBatch xs), (.row cBatch ys)] ⟨[.one (.ty (.slice cBatch))], 0⟩ = some (xs.take i.toNat ++ ys ++ xs.drop i.toNat) :=
    if_pos ⟨h0, hi, hy, by show (List.length (α := BatchT) xs + List.length (α := BatchT) ys) * 48 ≤ _; omega⟩
  unfold slices_Insert.f callX orPrim
  rw [e]
  rfl
end Go.Proofs.Ytdbhfpngfjlgjaa

/- What makes a command valid: the code and the reference say the same. -/
set_option linter.unusedVariables false
set_option linter.unusedSimpArgs false
set_option maxRecDepth 10000
namespace Go.Proofs.Ytdbhfpngfjlgjaa
open Go Go.Sk

/-! ### positions -/
theorem vec_eq (a : Int × Int) : vec_Valid.f a = ref02_Valid.f a ∧ ∃ r, ref02_Valid.f a = some r := by
  have h : ∀ n, vec_near.f n = ref02_Near.f n := fun n => by
    rw [vec_near.f_eq, num_Clamp.f_eq, ref02_Near.f_eq]
    simp only [Option.bind_some, Option.some.injEq]
    repeat' split
    all_goals omega
  constructor
  · rw [vec_Valid.f_eq, ref02_Valid.f_eq, vec_nearest.f_eq, ref02_NearVec.f_eq, h, h]
  · rw [ref02_Valid.f_eq, ref02_NearVec.f_eq, ref02_Near.f_eq, ref02_Near.f_eq]
    exact ⟨_, rfl⟩

/-! ### names -/
def badByte (e : Int) : Bool := !(decide (97 ≤ e) && decide (e ≤ 122) || decide (48 ≤ e) && decide (e ≤ 57) || e == 95)
def nameS (s : ByteArray) : Bool := decide (0 < s.size) && decide (s.size ≤ 12) && (byteAt s 0).elim false (fun e => decide (97 ≤ e) && decide (e ≤ 122)) && !(List.range s.size).any fun k => (byteAt s k).elim true badByte
theorem rname_eq (s : ByteArray) (hs : s.size ≤ lim48) : rules_Name.f s = some (nameS s) := by
  unfold lim48 at hs
  rw [rules_Name.f_eq, empty_iff]
  unfold nameS
  by_cases h0 : s.size = 0
  · simp [h0]
  by_cases h1 : s.size ≤ 12
  · have he' := byteAt_nat s 0 (by omega)
    generalize (s[0].toNat : Int) = e at he'
    have he' : byteAt s 0 = some e := he'
    rw [decide_eq_false h0, cond_false, decide_eq_false (by omega : ¬ ((s.size : Int) > 12)), cond_false, he', Option.bind_some, Option.bind_some, Option.elim_some]
    rw [cnt_loop s.size (fun i => rules_Name.j0 s s.size i) (fun k => (byteAt s k).elim true badByte) false (some true) (fun k hk => ?hF) ?hE]
    · rw [decide_eq_true (by omega : 0 < s.size), decide_eq_true h1]
      by_cases ha : e < 97
      · rw [decide_eq_true ha, cond_true, decide_eq_false (by omega : ¬ 97 ≤ e)]; rfl
      by_cases hb : e > 122
      · rw [decide_eq_false ha, cond_false, decide_eq_true hb, cond_true, decide_eq_false (by omega : ¬ e ≤ 122), Bool.and_false]; rfl
      · rw [decide_eq_false ha, cond_false, decide_eq_false hb, cond_false, decide_eq_true (by omega : 97 ≤ e), decide_eq_true (by omega : e ≤ 122)]
        cases (List.range s.size).any fun k => (byteAt s k).elim true badByte <;> rfl
    case hF =>
      have hb := byteAt_nat s k hk
      generalize (s[k].toNat : Int) = b at hb
      rw [rules_Name.j0_eq, lt_true hk, cond_true, hb, Option.bind_some, Option.elim_some, wr_succ hk (by omega)]
      unfold badByte
      simp only [ge_iff_le, gt_iff_lt, dec_le, bne_beq]
      cases decide (b < 97) <;> cases decide (122 < b) <;> cases decide (b < 48) <;> cases decide (57 < b) <;> cases (b == 95) <;> rfl
    case hE =>
      rw [rules_Name.j0_eq, lt_false (Nat.le_refl _), cond_false]
  · rw [decide_eq_false h0, cond_false, decide_eq_true (by omega : (s.size : Int) > 12), cond_true, decide_eq_false h1, Bool.and_false]
    rfl
theorem name_eq (s : ByteArray) (hs : s.size ≤ lim48) : ref09_Name.f s = some (nameS s) := by
  unfold lim48 at hs
  rw [ref09_Name.f_eq]
  unfold nameS
  by_cases h0 : s.size = 0
  · simp [h0]
  by_cases h1 : s.size ≤ 12
  · have he' := byteAt_nat s 0 (by omega)
    generalize (s[0].toNat : Int) = e at he'
    have he' : byteAt s 0 = some e := he'
    rw [decide_eq_false (by omega : ¬ ((s.size : Int) < 1)), cond_false, decide_eq_false (by omega : ¬ ((s.size : Int) > 12)), cond_false, he', Option.bind_some, Option.bind_some, Option.elim_some]
    rw [cnt_loop s.size (fun i => ref09_Name.j0 s i) (fun k => (byteAt s k).elim true badByte) false (some true) (fun k hk => ?hF) ?hE]
    · rw [decide_eq_true (by omega : 0 < s.size), decide_eq_true h1]
      by_cases ha : e < 97
      · rw [decide_eq_true ha, cond_true, decide_eq_false (by omega : ¬ 97 ≤ e)]; rfl
      by_cases hb : e > 122
      · rw [decide_eq_false ha, cond_false, decide_eq_true hb, cond_true, decide_eq_false (by omega : ¬ e ≤ 122), Bool.and_false]; rfl
      · rw [decide_eq_false ha, cond_false, decide_eq_false hb, cond_false, decide_eq_true (by omega : 97 ≤ e), decide_eq_true (by omega : e ≤ 122)]
        cases (List.range s.size).any fun k => (byteAt s k).elim true badByte <;> rfl
    case hF =>
      have hb := byteAt_nat s k hk
      generalize (s[k].toNat : Int) = b at hb
      rw [ref09_Name.j0_eq, lt_true hk, cond_true, hb, Option.bind_some, Option.elim_some, wr_succ hk (by omega)]
      unfold badByte
      simp only [ge_iff_le, gt_iff_lt, dec_le, bne_beq]
      cases decide (b < 97) <;> cases decide (122 < b) <;> cases decide (b < 48) <;> cases decide (57 < b) <;> cases (b == 95) <;> rfl
    case hE =>
      rw [ref09_Name.j0_eq, lt_false (Nat.le_refl _), cond_false]
  · rw [decide_eq_false (by omega : ¬ ((s.size : Int) < 1)), cond_false, decide_eq_true (by omega : (s.size : Int) > 12), cond_true, decide_eq_false h1, Bool.and_false]
    rfl
end Go.Proofs.Ytdbhfpngfjlgjaa

/- What makes a command valid, and when two are the same: the code and the reference say the same. -/
set_option linter.unusedVariables false
set_option linter.unusedSimpArgs false
set_option maxRecDepth 10000
namespace Go.Proofs.Ytdbhfpngfjlgjaa
open Go Go.Sk

/-! ### the units -/
def badUnit (l : List Int) (k : Nat) : Bool := (l[k]?).elim true fun e => decide (e < 1) || decide (e > 1099511627776) || (decide (0 < k) && (l[k - 1]?).elim true fun f => decide (e ≤ f))
def singleS (k : Int) : Bool := k == 7 || k == 8 || k == 9
def listedS (c : CmdT) : Bool := !((List.range c.2.2.1.length).any (badUnit c.2.2.1)) && decide (0 < c.2.2.1.length) && (!singleS c.2.1 || c.2.2.1.length == 1)
theorem badUnit_at (l : List Int) (k : Nat) (hk : k < l.length) : badUnit l k = (decide (l[k] < 1) || decide (l[k] > 1099511627776) || (decide (0 < k) && (l[k - 1]?).elim true fun f => decide (l[k] ≤ f))) := by
  unfold badUnit
  rw [List.getElem?_eq_getElem hk]
  rfl
theorem ids_eq (c : CmdT) (hc : c.2.2.1.length ≤ lim48) : command_ids.f c = some (listedS c) := by
  rw [command_ids.f_eq, cnt_loop c.2.2.1.length (fun i => command_ids.j0 c.2.2.1 c.2.2.1.length i c) (badUnit c.2.2.1) false (some (decide (0 < c.2.2.1.length) && (!singleS c.2.1 || c.2.2.1.length == 1))) (fun k hk => ?hF) ?hE]
  · unfold listedS
    cases (List.range c.2.2.1.length).any (badUnit c.2.2.1) <;> rfl
  case hF =>
    have hl := hc
    unfold lim48 at hl
    rw [command_ids.j0_eq, lt_true hk, cond_true, idx_nat, List.getElem?_eq_getElem hk, Option.bind_some, badUnit_at _ _ hk, wr_succ hk (by omega)]
    cases decide (c.2.2.1[k] < 1) with
    | true => rfl
    | false =>
      cases decide (c.2.2.1[k] > 1099511627776) with
      | true => rfl
      | false =>
        simp only [cond_false, Bool.false_or]
        by_cases h0 : 0 < k
        · rw [decide_eq_true (by omega : (k : Int) > 0), cond_true, prev_idx _ _ hk (by omega) h0, Option.bind_some, decide_eq_true h0, List.getElem?_eq_getElem (by omega)]
          rfl
        · rw [decide_eq_false (by omega : ¬ (k : Int) > 0), cond_false, decide_eq_false h0]
          rfl
  case hE =>
    rw [command_ids.j0_eq, lt_false (Nat.le_refl _), cond_false]
    have e0 : decide (((c.2.2.1.length : Nat) : Int) > 0) = decide (0 < c.2.2.1.length) := by by_cases h : 0 < c.2.2.1.length <;> simp [h] <;> omega
    rw [e0, show (((c.2.2.1.length : Nat) : Int) == 1) = (c.2.2.1.length == 1) from cast_beq _ 1]
    unfold singleS
    cases (c.2.1 == 7) <;> cases (c.2.1 == 8) <;> cases (c.2.1 == 9) <;> cases decide (0 < c.2.2.1.length) <;> rfl
theorem rsingle_eq (k : Int) : ref34_single.f k = some (singleS k) := by
  rw [ref34_single.f_eq]
  unfold singleS
  by_cases h1 : k ≥ 7
  · rw [decide_eq_true h1, cond_true]
    by_cases h2 : k ≤ 9
    · rw [decide_eq_true h2]
      have : k = 7 ∨ k = 8 ∨ k = 9 := by omega
      rcases this with rfl | rfl | rfl <;> rfl
    · rw [decide_eq_false h2, beq_eq_false_iff_ne.2 (by omega : k ≠ 7), beq_eq_false_iff_ne.2 (by omega : k ≠ 8), beq_eq_false_iff_ne.2 (by omega : k ≠ 9)]
      rfl
  · rw [decide_eq_false h1, cond_false, beq_eq_false_iff_ne.2 (by omega : k ≠ 7), beq_eq_false_iff_ne.2 (by omega : k ≠ 8), beq_eq_false_iff_ne.2 (by omega : k ≠ 9)]
    rfl
theorem listed_eq (c : CmdT) (hc : c.2.2.1.length ≤ lim48) : ref34_listed.f c = some (listedS c) := by
  rw [ref34_listed.f_eq, cnt_loop c.2.2.1.length (fun i => ref34_listed.j0 i c) (badUnit c.2.2.1) false (some (decide (0 < c.2.2.1.length) && (!singleS c.2.1 || c.2.2.1.length == 1))) (fun k hk => ?hF) ?hE]
  · unfold listedS
    cases (List.range c.2.2.1.length).any (badUnit c.2.2.1) <;> rfl
  case hF =>
    have hl := hc
    unfold lim48 at hl
    rw [ref34_listed.j0_eq, lt_true hk, cond_true, idx_nat, List.getElem?_eq_getElem hk, Option.bind_some, Option.bind_some, Option.bind_some, badUnit_at _ _ hk, wr_succ hk (by omega)]
    cases decide (c.2.2.1[k] < 1) with
    | true => rfl
    | false =>
      cases decide (c.2.2.1[k] > 1099511627776) with
      | true => rfl
      | false =>
        simp only [cond_false, Bool.false_or]
        by_cases h0 : 0 < k
        · rw [decide_eq_true (by omega : (k : Int) > 0), cond_true, prev_idx _ _ hk (by omega) h0, Option.bind_some, decide_eq_true h0, List.getElem?_eq_getElem (by omega)]
          rfl
        · rw [decide_eq_false (by omega : ¬ (k : Int) > 0), cond_false, decide_eq_false h0]
          rfl
  case hE =>
    rw [ref34_listed.j0_eq, lt_false (Nat.le_refl _), cond_false, rsingle_eq]
    have e0 : decide (((c.2.2.1.length : Nat) : Int) > 0) = decide (0 < c.2.2.1.length) := by by_cases h : 0 < c.2.2.1.length <;> simp [h] <;> omega
    rw [e0, show (((c.2.2.1.length : Nat) : Int) == 1) = (c.2.2.1.length == 1) from cast_beq _ 1]
    cases singleS c.2.1 <;> cases decide (0 < c.2.2.1.length) <;> rfl

/-! ### commands -/
def bitB (f b : Int) : Bool := IntKind.i64.wrap (↑(BitVec.toNat (BitVec.ofInt 64 f &&& BitVec.ofInt 64 b)) : Int) != 0
theorem bit_def (f b : Int) : (IntKind.i64.wrap (↑(BitVec.toNat (BitVec.ofInt 64 f &&& BitVec.ofInt 64 b)) : Int) != 0) = bitB f b := rfl
theorem kinds {k : Int} (h1 : ¬ k < 1) (h2 : ¬ k > 12) : k = 1 ∨ k = 2 ∨ k = 3 ∨ k = 4 ∨ k = 5 ∨ k = 6 ∨ k = 7 ∨ k = 8 ∨ k = 9 ∨ k = 10 ∨ k = 11 ∨ k = 12 := by omega
def ordS (k : Int) : Bool := decide (k ≥ 1) && decide (k ≤ 6)
def atS (k : Int) : Bool := k == 1 || (k == 3 || (k == 4 || k == 6))
def nS (k : Int) : Bool := k == 1 || k == 9
def nmS (k : Int) : Bool := k == 4 || (k == 7 || k == 8)
def fS (k : Int) : Int := if k = 1 then 43 else if k = 2 then 37 else if k = 3 ∨ k = 6 then 35 else if k = 4 then 51 else if k = 5 then 33 else if k = 7 ∨ k = 8 then 17 else if k = 9 then 9 else 0
theorem ord_eq (k : Int) : ref34_Ordering.f k = some (ordS k) := by rw [ref34_Ordering.f_eq, c1]; rfl
theorem at_eq (k : Int) : ref34_hasAt.f k = some (atS k) := by rw [ref34_hasAt.f_eq, c2, c2, c2]; rfl
theorem n_eq (k : Int) : ref34_hasN.f k = some (nS k) := by rw [ref34_hasN.f_eq, c2]; rfl
theorem nm_eq (k : Int) : ref34_hasName.f k = some (nmS k) := by rw [ref34_hasName.f_eq, c2, c2]; rfl
theorem fields_eq {k : Int} (h1 : ¬ k < 1) (h2 : ¬ k > 12) : command_fields.f k = some (fS k) := by
  rw [command_fields.f_eq]
  rcases kinds h1 h2 with rfl | rfl | rfl | rfl | rfl | rfl | rfl | rfl | rfl | rfl | rfl | rfl <;> rfl
theorem bits {k : Int} (h1 : ¬ k < 1) (h2 : ¬ k > 12) : bitB (fS k) 1 = (ordS k || singleS k) ∧ bitB (fS k) 2 = atS k ∧ bitB (fS k) 4 = (k == 2) ∧ bitB (fS k) 8 = nS k ∧ bitB (fS k) 16 = nmS k ∧ bitB (fS k) 32 = ordS k := by
  rcases kinds h1 h2 with rfl | rfl | rfl | rfl | rfl | rfl | rfl | rfl | rfl | rfl | rfl | rfl <;> decide
def bareS (c : CmdT) : Bool := ((ordS c.2.1 || singleS c.2.1) || ((c.2.2.1.length : Int) == 0)) && ((atS c.2.1 || (c.2.2.2.1.1 == 0 && c.2.2.2.1.2 == 0)) && ((c.2.1 == 2 || c.2.2.2.2.1 == 0) && ((nS c.2.1 || c.2.2.2.2.2.1 == 0) && ((nmS c.2.1 || decide (c.2.2.2.2.2.2.1.size = 0)) && (ordS c.2.1 || !c.2.2.2.2.2.2.2)))))
theorem bare_eq (c : CmdT) : ref34_bare.f c = some (bareS c) := by
  rw [ref34_bare.f_eq]
  simp only [ref34_bare.j0_eq, ref34_bare.j1_eq, ord_eq, at_eq, n_eq, nm_eq, rsingle_eq, Option.bind_some, empty_iff, c1, c2, c3]
  unfold bareS
  generalize ((atS c.2.1 || (c.2.2.2.1.1 == 0 && c.2.2.2.1.2 == 0)) && ((c.2.1 == 2 || c.2.2.2.2.1 == 0) && ((nS c.2.1 || c.2.2.2.2.2.1 == 0) && ((nmS c.2.1 || decide (c.2.2.2.2.2.2.1.size = 0)) && (ordS c.2.1 || !c.2.2.2.2.2.2.2))))) = z
  cases ordS c.2.1 <;> cases singleS c.2.1 <;> simp
theorem unused_eq (c : CmdT) (h1 : ¬ c.2.1 < 1) (h2 : ¬ c.2.1 > 12) : command_unused.f c = some (bareS c) := by
  obtain ⟨b1, b2, b4, b8, b16, b32⟩ := bits h1 h2
  rw [command_unused.f_eq, fields_eq h1 h2]
  simp only [command_unused.j0_eq, Option.bind_some, bit_def, b1, b2, b4, b8, b16, b32, empty_iff, c1, c2, c3]
  rfl
/-! the tests, one behind another -/
def e5 (c : CmdT) : Option Int := bif nmS c.2.1 && !nameS c.2.2.2.2.2.2.1 then some 6 else some 0
def e4 (c : CmdT) : Option Int := bif nS c.2.1 && (decide (c.2.2.2.2.2.1 < 0) || decide (c.2.2.2.2.2.1 > 4)) then some 1 else e5 c
def e3 (c : CmdT) : Option Int := bif c.2.1 == 2 && (decide (c.2.2.2.2.1 < 1) || decide (c.2.2.2.2.1 > 1099511627776)) then some 1 else e4 c
def e2 (c : CmdT) (v : Bool) : Option Int := bif atS c.2.1 && !v then some 1 else e3 c
def e1 (c : CmdT) (v : Bool) : Option Int := bif (ordS c.2.1 || singleS c.2.1) && !listedS c then some 1 else e2 c v
theorem e_or {α : Type} (a b c : Bool) (x y : α) : (bif a then (bif b then x else bif c then x else y) else y) = bif a && (b || c) then x else y := by cases a <;> cases b <;> cases c <;> rfl
section
variable (c : CmdT) (hn : c.2.2.2.2.2.2.1.size ≤ lim48) (h1 : ¬ c.2.1 < 1) (h2 : ¬ c.2.1 > 12)
include hn
theorem rj5 (t : Bool) : ref34_Valid.j5 t c = bif t then some 1 else e5 c := by
  rw [ref34_Valid.j5_eq, nm_eq, name_eq _ hn]
  unfold e5
  cases t <;> cases nmS c.2.1 <;> cases nameS c.2.2.2.2.2.2.1 <;> simp [ref34_Valid.j6_eq]
theorem rj4 (t : Bool) : ref34_Valid.j4 4 t c = bif t then some 1 else e4 c := by
  rw [ref34_Valid.j4_eq, n_eq]
  simp only [rj5 c hn, Option.bind_some]
  unfold e4
  cases t <;> cases nS c.2.1 <;> cases decide (c.2.2.2.2.2.1 < 0) <;> rfl
theorem rj3 (t : Bool) : ref34_Valid.j3 4 t c = bif t then some 1 else e3 c := by
  rw [ref34_Valid.j3_eq]
  simp only [rj4 c hn]
  unfold e3
  cases t <;> cases c.2.1 == 2 <;> cases decide (c.2.2.2.2.1 < 1) <;> rfl
theorem rj2 {v : Bool} (hv : ref02_Valid.f c.2.2.2.1 = some v) (t : Bool) : ref34_Valid.j2 4 t c = bif t then some 1 else e2 c v := by
  rw [ref34_Valid.j2_eq, at_eq, hv]
  simp only [rj3 c hn, Option.bind_some]
  unfold e2
  cases t <;> cases atS c.2.1 <;> rfl
theorem rj1 {v : Bool} (hv : ref02_Valid.f c.2.2.2.1 = some v) (hu : c.2.2.1.length ≤ lim48) : ref34_Valid.j1 4 c = e1 c v := by
  rw [ref34_Valid.j1_eq, ord_eq, rsingle_eq, listed_eq c hu]
  simp only [rj2 c hn hv, Option.bind_some]
  unfold e1
  cases ordS c.2.1 <;> cases singleS c.2.1 <;> rfl
include h1 h2
theorem cj3 (t : Bool) : command_Valid.j3 (fS c.2.1) t c = bif t then some 1 else e5 c := by
  rw [command_Valid.j3_eq, bit_def, (bits h1 h2).2.2.2.2.1, rname_eq _ hn]
  unfold e5
  cases t <;> cases nmS c.2.1 <;> cases nameS c.2.2.2.2.2.2.1 <;> simp [command_Valid.j5_eq]
theorem cj7 (t : Bool) : command_Valid.j7 (fS c.2.1) 4 t c = bif t then some 1 else e4 c := by
  rw [command_Valid.j7_eq, bit_def, (bits h1 h2).2.2.2.1]
  simp only [command_Valid.j9_eq, command_Valid.j8_eq, command_Valid.j6_eq, cj3 c hn h1 h2]
  unfold e4
  cases t <;> cases nS c.2.1 <;> cases decide (c.2.2.2.2.2.1 < 0) <;> rfl
theorem cj4 (t : Bool) : command_Valid.j4 (fS c.2.1) 4 t c = bif t then some 1 else e3 c := by
  rw [command_Valid.j4_eq, bit_def, (bits h1 h2).2.2.1]
  simp only [command_Valid.j6_eq, cj3 c hn h1 h2, cj7 c hn h1 h2]
  unfold e3
  cases t <;> cases c.2.1 == 2 <;> cases decide (c.2.2.2.2.1 < 1) <;> rfl
theorem cj2 {v : Bool} (hv : vec_Valid.f c.2.2.2.1 = some v) (t : Bool) : command_Valid.j2 (fS c.2.1) 4 t c = bif t then some 1 else e2 c v := by
  rw [command_Valid.j2_eq, bit_def, (bits h1 h2).2.1, hv]
  simp only [cj3 c hn h1 h2, cj4 c hn h1 h2, Option.bind_some]
  unfold e2
  cases t <;> cases atS c.2.1 <;> rfl
theorem cj1 {v : Bool} (hv : vec_Valid.f c.2.2.2.1 = some v) (hu : c.2.2.1.length ≤ lim48) : command_Valid.j1 (fS c.2.1) 4 c = e1 c v := by
  rw [command_Valid.j1_eq, bit_def, (bits h1 h2).1, ids_eq c hu]
  simp only [cj2 c hn h1 h2 hv, Option.bind_some]
  unfold e1
  cases ordS c.2.1 <;> cases singleS c.2.1 <;> rfl
end
theorem e5_some (c : CmdT) : ∃ r, e5 c = some r := by unfold e5; cases nmS c.2.1 && !nameS c.2.2.2.2.2.2.1 <;> exact ⟨_, rfl⟩
theorem bif_some {α : Type} (a : Bool) (x : α) {o : Option α} (h : ∃ r, o = some r) : ∃ r, (bif a then some x else o) = some r := by
  obtain ⟨r, rfl⟩ := h
  cases a <;> exact ⟨_, rfl⟩
theorem e1_some (c : CmdT) (v : Bool) : ∃ r, e1 c v = some r := bif_some _ _ (bif_some _ _ (bif_some _ _ (bif_some _ _ (e5_some c))))
theorem valid_both (c : CmdT) (hu : c.2.2.1.length ≤ lim48) (hn : c.2.2.2.2.2.2.1.size ≤ lim48) : command_Valid.f c = ref34_Valid.f c ∧ ∃ r, ref34_Valid.f c = some r := by
  obtain ⟨hvec, v, hv⟩ := vec_eq c.2.2.2.1
  rw [hv] at hvec
  have r0 : ∀ t, ref34_Valid.j0 t c = bif t then some 1 else bif decide ((c.2.2.1.length : Int) > 64) then some 2 else e1 c v := fun t => by
    rw [ref34_Valid.j0_eq, rj1 c hn hv hu]
    cases c.2.1 == 1 <;> rfl
  rw [command_Valid.f_eq, ref34_Valid.f_eq]
  by_cases h1 : c.2.1 < 1
  · rw [decide_eq_true h1]; exact ⟨by rw [cond_true, cond_true, command_Valid.j0_eq, ref34_Valid.j0_eq]; rfl, 1, by rw [cond_true, ref34_Valid.j0_eq]; rfl⟩
  by_cases h2 : c.2.1 > 12
  · rw [decide_eq_false h1, decide_eq_true h2]; exact ⟨by rw [cond_false, cond_false, cond_true, cond_true, command_Valid.j0_eq, ref34_Valid.j0_eq]; rfl, 1, by rw [cond_false, cond_true, ref34_Valid.j0_eq]; rfl⟩
  have k0 : ∀ t, command_Valid.j0 t c = bif t then some 1 else bif decide ((c.2.2.1.length : Int) > 64) then some 2 else e1 c v := fun t => by
    rw [command_Valid.j0_eq, fields_eq h1 h2]
    simp only [Option.bind_some, cj1 c hn h1 h2 hvec hu]
    cases c.2.1 == 9 <;> rfl
  rw [decide_eq_false h1, decide_eq_false h2, unused_eq c h1 h2, bare_eq]
  simp only [cond_false, Option.bind_some, k0, r0, true_and]
  obtain ⟨r, hr⟩ := e1_some c v
  rw [hr]
  cases decide (c.1 < 1) <;> cases decide (c.1 > 6) <;> cases bareS c <;> cases decide ((c.2.2.1.length : Int) > 64) <;> exact ⟨_, rfl⟩
end Go.Proofs.Ytdbhfpngfjlgjaa

/- When commands, batches and gates are the same: exactly if they are equal. -/
set_option linter.unusedVariables false
set_option linter.unusedSimpArgs false
namespace Go.Proofs.Ytdbhfpngfjlgjaa
open Go Go.Sk

instance dec1 : DecidableEq (Int × Int × ByteArray × Bool) := inferInstance
instance dec2 : DecidableEq ((Int × Int) × Int × Int × ByteArray × Bool) := inferInstance
instance dec3 : DecidableEq (Int × List Int × (Int × Int) × Int × Int × ByteArray × Bool) := inferInstance
instance dec4 : DecidableEq CmdT := inferInstance
instance dec5 : DecidableEq (Int × List CmdT) := inferInstance
instance dec6 : DecidableEq BatchT := inferInstance
instance dec7 : DecidableEq (List Int × List BatchT) := inferInstance
instance dec8 : DecidableEq GateT := inferInstance
/-- a command of units that can be counted -/
def CmdL (c : CmdT) : Prop := c.2.2.1.length ≤ lim48 ∧ c.2.2.2.2.2.2.1.size ≤ lim48
def BatL (b : BatchT) : Prop := b.2.2.2.length ≤ lim48 ∧ ∀ c ∈ b.2.2.2, CmdL c
def GatL (g : GateT) : Prop := g.2.1.length ≤ lim48 ∧ g.2.2.length ≤ lim48 ∧ ∀ b ∈ g.2.2, BatL b

theorem cmdSame_eq (a b : CmdT) (ha : CmdL a) : command_Same.f a b = some (decide (a = b)) := by
  obtain ⟨p, k, u, ⟨x, y⟩, t, n, nm, q⟩ := a
  obtain ⟨p', k', u', ⟨x', y'⟩, t', n', nm', q'⟩ := b
  rw [command_Same.f_eq, slEqual_eq _ _ ha.1]
  simp only [Option.bind_some, c1, toList_beq, beq_dec, ← Bool.decide_and]
  congr 1
  apply decide_eq_decide.2
  simp only [Prod.mk.injEq]
theorem rcmdSame_eq (a b : CmdT) (ha : CmdL a) : ref34_Same.f a b = some (decide (a = b)) := by
  have hu : a.2.2.1.length ≤ 2000000 := ha.1
  rw [ref34_Same.f_eq]
  have hloop : a.2.2.1.length = b.2.2.1.length → ref34_Same.j0 0 a b = some (decide (a.2.2.1 = b.2.2.1)) := fun hl => by
    refine equal_fun (eqf := fun x y => some (decide (x = y))) a.2.2.1 b.2.2.1 (fun _ _ _ => rfl) (fun i => ref34_Same.j0 i a b) hl (fun k h1 h2 => ?_) ?_
    · rw [ref34_Same.j0_eq, lt_true h1, cond_true, idx_nat, idx_nat, List.getElem?_eq_getElem h1, List.getElem?_eq_getElem h2, Option.bind_some, Option.bind_some, wr_succ h1 (by omega), bne_dec]
      rfl
    · rw [ref34_Same.j0_eq, lt_false (Nat.le_refl _), cond_false]
  have hlen : (bif ((a.2.2.1.length : Int) != (b.2.2.1.length : Int)) then some false else ref34_Same.j0 0 a b) = some (decide (a.2.2.1 = b.2.2.1)) := by
    cases hl : ((a.2.2.1.length : Int) != (b.2.2.1.length : Int)) with
    | true => rw [cond_true, decide_eq_false fun h => (len_ne _ _).1 hl (by rw [h])]
    | false => exact hloop (len_eq hl)
  rw [hlen]
  clear hlen hloop hu ha
  obtain ⟨p, k, u, ⟨x, y⟩, t, n, nm, q⟩ := a
  obtain ⟨p', k', u', ⟨x', y'⟩, t', n', nm', q'⟩ := b
  simp only [c4, toList_beq, beq_dec, bne_dec, Bool.not_not, ← Bool.decide_and]
  congr 1
  apply decide_eq_decide.2
  simp only [Prod.mk.injEq]
  constructor
  · rintro ⟨h1, h2, ⟨h4, h5⟩, h6, h7, h8, h9, h3⟩
    exact ⟨h1, h2, h3, ⟨h4, h5⟩, h6, h7, h8, h9⟩
  · rintro ⟨h1, h2, h3, ⟨h4, h5⟩, h6, h7, h8, h9⟩
    exact ⟨h1, h2, ⟨h4, h5⟩, h6, h7, h8, h9, h3⟩

theorem equalCmds_eq (a b : List CmdT) (ha : a.length ≤ lim48) (hc : ∀ c ∈ a, CmdL c) : slices_EqualFunc.f a b = some (decide (a = b)) := by
  unfold lim48 at ha
  rw [slices_EqualFunc.f_eq]
  cases hl : ((a.length : Int) != (b.length : Int)) with
  | true => rw [cond_true, decide_eq_false fun h => (len_ne a b).1 hl (by rw [h])]
  | false =>
    refine equal_fun (eqf := command_Same.f) a b (fun x hx y => cmdSame_eq x y (hc x hx)) (fun i => slices_EqualFunc.j0 b a a.length i) (len_eq hl) (fun k h1 h2 => ?_) ?_
    · rw [slices_EqualFunc.j0_eq, lt_true h1, cond_true, idx_nat, idx_nat, List.getElem?_eq_getElem h1, List.getElem?_eq_getElem h2, Option.bind_some, Option.bind_some, wr_succ h1 (by omega)]
    · rw [slices_EqualFunc.j0_eq, lt_false (Nat.le_refl _), cond_false]
theorem sameCmds_eq (a b : List CmdT) (ha : a.length ≤ lim48) (hc : ∀ c ∈ a, CmdL c) : ref46_SameCommands.f a b = some (decide (a = b)) := by
  unfold lim48 at ha
  rw [ref46_SameCommands.f_eq]
  cases hl : ((a.length : Int) != (b.length : Int)) with
  | true => rw [cond_true, decide_eq_false fun h => (len_ne a b).1 hl (by rw [h])]
  | false =>
    refine equal_fun (eqf := ref34_Same.f) a b (fun x hx y => rcmdSame_eq x y (hc x hx)) (fun i => ref46_SameCommands.j0 a b i) (len_eq hl) (fun k h1 h2 => ?_) ?_
    · rw [ref46_SameCommands.j0_eq, lt_true h1, cond_true, idx_nat, idx_nat, List.getElem?_eq_getElem h1, List.getElem?_eq_getElem h2, Option.bind_some, Option.bind_some, wr_succ h1 (by omega)]
    · rw [ref46_SameCommands.j0_eq, lt_false (Nat.le_refl _), cond_false]
theorem batSame_eq (a b : BatchT) (ha : BatL a) : input_Same.f a b = some (decide (a = b)) := by
  rw [input_Same.f_eq, equalCmds_eq _ _ ha.1 ha.2]
  obtain ⟨p, t, l, c⟩ := a
  obtain ⟨p', t', l', c'⟩ := b
  simp only [Option.bind_some, c1, beq_dec, ← Bool.decide_and]
  congr 1
  apply decide_eq_decide.2
  simp only [Prod.mk.injEq]
theorem rbatSame_eq (a b : BatchT) (ha : BatL a) : ref46_Same.f a b = some (decide (a = b)) := by
  rw [ref46_Same.f_eq, sameCmds_eq _ _ ha.1 ha.2]
  obtain ⟨p, t, l, c⟩ := a
  obtain ⟨p', t', l', c'⟩ := b
  simp only [Option.bind_some, c1, beq_dec, ← Bool.decide_and]
  congr 1
  apply decide_eq_decide.2
  simp only [Prod.mk.injEq]
theorem gatSame_eq (a b : GateT) (ha : GatL a) : ref49_Same.f a b = some (decide (a = b)) := by
  have hn : a.2.2.length ≤ 2000000 := ha.2.1
  rw [ref49_Same.f_eq, samePlayers_eq _ _ ha.1]
  have hlen : (bif ((a.2.2.length : Int) != (b.2.2.length : Int)) then some false else ref49_Same.j0 0 a b) = some (decide (a.2.2 = b.2.2)) := by
    cases hl : ((a.2.2.length : Int) != (b.2.2.length : Int)) with
    | true => rw [cond_true, decide_eq_false fun h => (len_ne _ _).1 hl (by rw [h])]
    | false =>
      refine equal_fun (eqf := ref46_Same.f) a.2.2 b.2.2 (fun x hx y => rbatSame_eq x y (ha.2.2 x hx)) (fun i => ref49_Same.j0 i a b) (len_eq hl) (fun k h1 h2 => ?_) ?_
      · rw [ref49_Same.j0_eq, lt_true h1, cond_true, idx_nat, idx_nat, List.getElem?_eq_getElem h1, List.getElem?_eq_getElem h2, Option.bind_some, Option.bind_some, wr_succ h1 (by omega)]
      · rw [ref49_Same.j0_eq, lt_false (Nat.le_refl _), cond_false]
  rw [hlen]
  obtain ⟨t, p, l⟩ := a
  obtain ⟨t', p', l'⟩ := b
  simp only [Option.bind_some, c4, beq_dec, bne_dec, Bool.not_not, ← Bool.decide_and]
  congr 1
  apply decide_eq_decide.2
  simp only [Prod.mk.injEq]
end Go.Proofs.Ytdbhfpngfjlgjaa

/- What makes batches and gates valid: the code and the reference say the same. -/
set_option linter.unusedVariables false
set_option linter.unusedSimpArgs false
namespace Go.Proofs.Ytdbhfpngfjlgjaa
open Go Go.Sk

noncomputable def errOf (c : CmdT) : Int := (ref34_Valid.f c).getD 1
theorem rvalid_err (c : CmdT) (hc : CmdL c) : ref34_Valid.f c = some (errOf c) := by
  obtain ⟨_, r, h⟩ := valid_both c hc.1 hc.2
  unfold errOf
  rw [h]
  rfl
theorem valid_err (c : CmdT) (hc : CmdL c) : command_Valid.f c = some (errOf c) := by
  rw [(valid_both c hc.1 hc.2).1, rvalid_err c hc]
/-- a command that does not belong to a batch of a player -/
noncomputable def badCmd (p : Int) (c : CmdT) : Bool := errOf c != 0 || c.1 != p
noncomputable def batOK (b : BatchT) : Bool := (!decide (b.1 < 1) && (!decide (b.1 > 6) && (!decide (b.2.1 < 0) && (!decide (b.2.1 > 1048584) && (!decide (b.2.2.1 < 0) && (!decide (b.2.2.1 > 1048576) && (!decide ((b.2.2.2.length : Int) > 16) && !(b.2.2.2.any (badCmd b.1)))))))))
theorem inputValid_eq (b : BatchT) (hb : BatL b) : input_Valid.f b = some (batOK b) := by
  have hl : b.2.2.2.length ≤ 2000000 := hb.1
  have hidx : slices_IndexFunc_1.f b.2.2.2 b = some (pos1 (b.2.2.2.findIdx? (badCmd b.1))) := by
    rw [slices_IndexFunc_1.f_eq, find_loop b.2.2.2 (fun i => slices_IndexFunc_1.j0 b.2.2.2 b b.2.2.2.length i) (badCmd b.1) (fun k => (k : Int)) (some (-1)) (fun k hk => ?hF) ?hE]
    · exact found_pos _
    case hF =>
      rw [slices_IndexFunc_1.j0_eq, lt_true hk, cond_true, idx_nat, List.getElem?_eq_getElem hk, Option.bind_some, input_Valid_1.f_eq, valid_err _ (hb.2 _ (List.getElem_mem hk)), Option.bind_some, wr_succ hk (by omega)]
      unfold badCmd
      cases errOf b.2.2.2[k] != 0 <;> rfl
    case hE =>
      rw [slices_IndexFunc_1.j0_eq, lt_false (Nat.le_refl _), cond_false]
  rw [input_Valid.f_eq, slices_ContainsFunc.f_eq, hidx, Option.bind_some, findIdx_ge, Option.bind_some]
  simp only [c4]
  rfl
theorem refValid_eq (b : BatchT) (hb : BatL b) : ref46_Valid.f b = some (batOK b) := by
  have hl : b.2.2.2.length ≤ 2000000 := hb.1
  have hloop : ref46_Valid.j0 0 b = some (!(b.2.2.2.any (badCmd b.1))) := by
    rw [any_loop b.2.2.2 (fun i => ref46_Valid.j0 i b) (badCmd b.1) false (some true) (fun k hk => ?hF) ?hE]
    · cases b.2.2.2.any (badCmd b.1) <;> rfl
    case hF =>
      rw [ref46_Valid.j0_eq, lt_true hk, cond_true, idx_nat, List.getElem?_eq_getElem hk, Option.bind_some, Option.bind_some, rvalid_err _ (hb.2 _ (List.getElem_mem hk)), Option.bind_some, wr_succ hk (by omega)]
      unfold badCmd
      cases errOf b.2.2.2[k] != 0 <;> cases b.2.2.2[k].1 != b.1 <;> rfl
    case hE =>
      rw [ref46_Valid.j0_eq, lt_false (Nat.le_refl _), cond_false]
  rw [ref46_Valid.f_eq, hloop]
  simp only [c4]
  rfl

/-! ### gates -/
def beforeS (a b : BatchT) : Bool := decide (a.2.1 < b.2.1) || (decide (a.2.1 = b.2.1) && decide (a.1 < b.1))
theorem before_eq (a b : BatchT) : gate_before.f a b = some (beforeS a b) := by
  rw [gate_before.f_eq]
  unfold beforeS
  cases decide (a.2.1 < b.2.1) <;> simp only [cond_true, cond_false, Bool.true_or, Bool.false_or, beq_dec, c1]
theorem rbefore_eq (a b : BatchT) : ref49_before.f a b = some (beforeS a b) := by
  rw [ref49_before.f_eq]
  unfold beforeS
  cases decide (a.2.1 < b.2.1) <;> simp only [cond_true, cond_false, Bool.true_or, Bool.false_or, beq_dec, c1]
def badPl (l : List Int) (k : Nat) : Bool := (l[k]?).elim true fun e => decide (e < 1) || decide (e > 6) || (decide (0 < k) && (l[k - 1]?).elim true fun f => decide (e ≤ f))
noncomputable def badBat (g : GateT) (k : Nat) : Bool := (g.2.2[k]?).elim true fun e => !batOK e || !(g.2.1.any fun x => e.1 == x) || decide (e.2.1 < g.1) || (decide (0 < k) && (g.2.2[k - 1]?).elim true fun f => !beforeS f e)
noncomputable def gateOK (g : GateT) : Bool := !decide (g.1 < 0) && (!decide (g.1 > 1048576) && (!((List.range g.2.1.length).any (badPl g.2.1)) && !((List.range g.2.2.length).any (badBat g))))
theorem badPl_at (l : List Int) (k : Nat) (hk : k < l.length) : badPl l k = (decide (l[k] < 1) || decide (l[k] > 6) || (decide (0 < k) && (l[k - 1]?).elim true fun f => decide (l[k] ≤ f))) := by
  unfold badPl
  rw [List.getElem?_eq_getElem hk]
  rfl
theorem badBat_at (g : GateT) (k : Nat) (hk : k < g.2.2.length) : badBat g k = (!batOK g.2.2[k] || !(g.2.1.any fun x => g.2.2[k].1 == x) || decide (g.2.2[k].2.1 < g.1) || (decide (0 < k) && (g.2.2[k - 1]?).elim true fun f => !beforeS f g.2.2[k])) := by
  unfold badBat
  rw [List.getElem?_eq_getElem hk]
  rfl
theorem b_end {a b : Bool} : (bif a then some false else bif b then some false else some true) = some (!a && !b) := by cases a <;> cases b <;> rfl
theorem b_end1 {b : Bool} : (bif b then some false else some true) = some (!b) := by cases b <;> rfl
theorem gateValid_eq (g : GateT) (hg : GatL g) : gate_Valid.f g = some (gateOK g) := by
  obtain ⟨hp, hb, hbl⟩ := hg
  have hp' := hp
  have hb' := hb
  unfold lim48 at hp' hb'
  have h1 : gate_Valid.j1 g.2.2 g.2.2.length 0 g = some (!((List.range g.2.2.length).any (badBat g))) := by
    rw [cnt_loop g.2.2.length (fun i => gate_Valid.j1 g.2.2 g.2.2.length i g) (badBat g) false (some true) (fun k hk => ?hF) ?hE, b_end1]
    case hF =>
      rw [gate_Valid.j1_eq, lt_true hk, cond_true, idx_nat, List.getElem?_eq_getElem hk, Option.bind_some, inputValid_eq _ (hbl _ (List.getElem_mem hk)), Option.bind_some, badBat_at _ _ hk, contains_eq _ _ hp, wr_succ hk (by omega)]
      cases batOK g.2.2[k] with
      | false => rfl
      | true =>
        simp only [Bool.not_true, cond_false, Option.bind_some, Bool.false_or]
        cases g.2.1.any fun x => g.2.2[k].1 == x with
        | false => rfl
        | true =>
          simp only [Bool.not_true, cond_false, Bool.false_or]
          cases decide (g.2.2[k].2.1 < g.1) with
          | true => rfl
          | false =>
            simp only [cond_false, Bool.false_or]
            by_cases h0 : 0 < k
            · rw [decide_eq_true (by omega : (k : Int) > 0), cond_true, prev_idx _ _ hk (by omega) h0, Option.bind_some, decide_eq_true h0, List.getElem?_eq_getElem (by omega), before_eq]
              rfl
            · rw [decide_eq_false (by omega : ¬ (k : Int) > 0), cond_false, decide_eq_false h0]
              rfl
    case hE =>
      rw [gate_Valid.j1_eq, lt_false (Nat.le_refl _), cond_false]
  have h0 : gate_Valid.j0 g.2.1 g.2.1.length 0 g = some (!((List.range g.2.1.length).any (badPl g.2.1)) && !((List.range g.2.2.length).any (badBat g))) := by
    rw [cnt_loop g.2.1.length (fun i => gate_Valid.j0 g.2.1 g.2.1.length i g) (badPl g.2.1) false (some (!((List.range g.2.2.length).any (badBat g)))) (fun k hk => ?hF) ?hE, c4]
    case hF =>
      rw [gate_Valid.j0_eq, lt_true hk, cond_true, idx_nat, List.getElem?_eq_getElem hk, Option.bind_some, badPl_at _ _ hk, wr_succ hk (by omega)]
      cases decide (g.2.1[k] < 1) with
      | true => rfl
      | false =>
        cases decide (g.2.1[k] > 6) with
        | true => rfl
        | false =>
          simp only [cond_false, Bool.false_or]
          by_cases h0 : 0 < k
          · rw [decide_eq_true (by omega : (k : Int) > 0), cond_true, prev_idx _ _ hk (by omega) h0, Option.bind_some, decide_eq_true h0, List.getElem?_eq_getElem (by omega)]
            rfl
          · rw [decide_eq_false (by omega : ¬ (k : Int) > 0), cond_false, decide_eq_false h0]
            rfl
    case hE =>
      rw [gate_Valid.j0_eq, lt_false (Nat.le_refl _), cond_false, h1]
  rw [gate_Valid.f_eq, h0]
  simp only [c4]
  rfl
theorem refGateValid_eq (g : GateT) (hg : GatL g) : ref49_Valid.f g = some (gateOK g) := by
  obtain ⟨hp, hb, hbl⟩ := hg
  have hp' := hp
  have hb' := hb
  unfold lim48 at hp' hb'
  have h1 : ref49_Valid.j1 0 g = some (!((List.range g.2.2.length).any (badBat g))) := by
    rw [cnt_loop g.2.2.length (fun i => ref49_Valid.j1 i g) (badBat g) false (some true) (fun k hk => ?hF) ?hE, b_end1]
    case hF =>
      rw [ref49_Valid.j1_eq, lt_true hk, cond_true, idx_nat, List.getElem?_eq_getElem hk, Option.bind_some, refValid_eq _ (hbl _ (List.getElem_mem hk)), Option.bind_some, badBat_at _ _ hk, has_eq _ _ hp, wr_succ hk (by omega)]
      cases batOK g.2.2[k] with
      | false => rfl
      | true =>
        simp only [Bool.not_true, cond_false, Option.bind_some, Bool.false_or]
        cases g.2.1.any fun x => g.2.2[k].1 == x with
        | false => rfl
        | true =>
          simp only [Bool.not_true, cond_false, Bool.false_or]
          cases decide (g.2.2[k].2.1 < g.1) with
          | true => rfl
          | false =>
            simp only [cond_false, Bool.false_or]
            by_cases h0 : 0 < k
            · rw [decide_eq_true (by omega : (k : Int) > 0), cond_true, prev_idx _ _ hk (by omega) h0, Option.bind_some, decide_eq_true h0, List.getElem?_eq_getElem (by omega), rbefore_eq]
              rfl
            · rw [decide_eq_false (by omega : ¬ (k : Int) > 0), cond_false, decide_eq_false h0]
              rfl
    case hE =>
      rw [ref49_Valid.j1_eq, lt_false (Nat.le_refl _), cond_false]
  have h0 : ref49_Valid.j0 0 g = some (!((List.range g.2.1.length).any (badPl g.2.1)) && !((List.range g.2.2.length).any (badBat g))) := by
    rw [cnt_loop g.2.1.length (fun i => ref49_Valid.j0 i g) (badPl g.2.1) false (some (!((List.range g.2.2.length).any (badBat g)))) (fun k hk => ?hF) ?hE, c4]
    case hF =>
      rw [ref49_Valid.j0_eq, lt_true hk, cond_true, idx_nat, List.getElem?_eq_getElem hk, Option.bind_some, badPl_at _ _ hk, wr_succ hk (by omega)]
      cases decide (g.2.1[k] < 1) with
      | true => rfl
      | false =>
        cases decide (g.2.1[k] > 6) with
        | true => rfl
        | false =>
          simp only [cond_false, Bool.false_or]
          by_cases h0 : 0 < k
          · rw [decide_eq_true (by omega : (k : Int) > 0), cond_true, prev_idx _ _ hk (by omega) h0, Option.bind_some, decide_eq_true h0, List.getElem?_eq_getElem (by omega)]
            rfl
          · rw [decide_eq_false (by omega : ¬ (k : Int) > 0), cond_false, decide_eq_false h0]
            rfl
    case hE =>
      rw [ref49_Valid.j0_eq, lt_false (Nat.le_refl _), cond_false, h1]
  rw [ref49_Valid.f_eq, h0]
  simp only [c4]
  rfl
end Go.Proofs.Ytdbhfpngfjlgjaa

/- What is collected of a gate: the current batches, the missing players; merged commands. -/
set_option linter.unusedVariables false
set_option linter.unusedSimpArgs false
namespace Go.Proofs.Ytdbhfpngfjlgjaa
open Go Go.Sk

/-! ### what is collected -/
theorem room8 (acc : List Int) (e : Int) (h : acc.length ≤ lim48) : decide ((List.length acc + List.length [e]) * 8 ≤ 140737488355328) = true := by unfold lim48 at h; exact decide_eq_true (by simp; omega)
theorem room48 (acc : List BatchT) (e : BatchT) (h : acc.length ≤ lim48) : decide ((List.length acc + List.length [e]) * 48 ≤ 140737488355328) = true := by unfold lim48 at h; exact decide_eq_true (by simp; omega)
theorem filter1_eq (l : List BatchT) (g : GateT) (hl : l.length ≤ lim48) : gate_filter_1.f l g = some (l.filter fun b => b.2.1 != g.1) := by
  have hl' := hl
  unfold lim48 at hl'
  rw [gate_filter_1.f_eq, filter_loop l (fun acc i => gate_filter_1.j0 g l l.length i acc) (fun b => b.2.1 != g.1) id some (fun acc k hk ha => ?hF) (fun acc ha => ?hE)]
  · rw [List.map_id]
  case hE => rw [gate_filter_1.j0_eq, lt_false (Nat.le_refl _), cond_false]
  case hF => rw [gate_filter_1.j0_eq, lt_true hk, cond_true, idx_nat, List.getElem?_eq_getElem hk, Option.bind_some, gate_Take_1.f_eq, Option.bind_some, wr_succ hk (by omega), room48 _ _ (by omega), cond_true]; rfl
theorem filter2_eq (l : List BatchT) (g : GateT) (hl : l.length ≤ lim48) : gate_filter_2.f l g = some (l.filter fun b => b.2.1 == g.1) := by
  have hl' := hl
  unfold lim48 at hl'
  rw [gate_filter_2.f_eq, filter_loop l (fun acc i => gate_filter_2.j0 g l l.length i acc) (fun b => b.2.1 == g.1) id some (fun acc k hk ha => ?hF) (fun acc ha => ?hE)]
  · rw [List.map_id]
  case hE => rw [gate_filter_2.j0_eq, lt_false (Nat.le_refl _), cond_false]
  case hF => rw [gate_filter_2.j0_eq, lt_true hk, cond_true, idx_nat, List.getElem?_eq_getElem hk, Option.bind_some, gate_current_1.f_eq, Option.bind_some, wr_succ hk (by omega), room48 _ _ (by omega), cond_true]; rfl
theorem filter3_eq (l : List Int) (p : Int) (hl : l.length ≤ lim48) : gate_filter_3.f l p = some (l.filter fun q => q != p) := by
  have hl' := hl
  unfold lim48 at hl'
  rw [gate_filter_3.f_eq, filter_loop l (fun acc i => gate_filter_3.j0 p l l.length i acc) (fun q => q != p) id some (fun acc k hk ha => ?hF) (fun acc ha => ?hE)]
  · rw [List.map_id]
  case hE => rw [gate_filter_3.j0_eq, lt_false (Nat.le_refl _), cond_false]
  case hF => rw [gate_filter_3.j0_eq, lt_true hk, cond_true, idx_nat, List.getElem?_eq_getElem hk, Option.bind_some, gate_without_1.f_eq, Option.bind_some, wr_succ hk (by omega), room8 _ _ (by omega), cond_true]; rfl
theorem filter4_eq (l : List BatchT) (p : Int) (hl : l.length ≤ lim48) : gate_filter_4.f l p = some (l.filter fun b => b.1 != p) := by
  have hl' := hl
  unfold lim48 at hl'
  rw [gate_filter_4.f_eq, filter_loop l (fun acc i => gate_filter_4.j0 p l l.length i acc) (fun b => b.1 != p) id some (fun acc k hk ha => ?hF) (fun acc ha => ?hE)]
  · rw [List.map_id]
  case hE => rw [gate_filter_4.j0_eq, lt_false (Nat.le_refl _), cond_false]
  case hF => rw [gate_filter_4.j0_eq, lt_true hk, cond_true, idx_nat, List.getElem?_eq_getElem hk, Option.bind_some, gate_without_2.f_eq, Option.bind_some, wr_succ hk (by omega), room48 _ _ (by omega), cond_true]; rfl
/-- the players without a batch among these -/
def missS (ps : List Int) (l : List BatchT) : List Int := ps.filter fun p => !(l.any fun b => b.1 == p)
theorem filter0_eq (ps : List Int) (l : List BatchT) (hp : ps.length ≤ lim48) (hl : l.length ≤ lim48) : gate_filter.f ps l = some (missS ps l) := by
  have hp' := hp
  have hl' := hl
  unfold lim48 at hp' hl'
  have hany : ∀ p, gate_Missing_1.f p l = some (!(l.any fun b => b.1 == p)) := fun p => by
    rw [gate_Missing_1.f_eq, slices_ContainsFunc_2.f_eq, slices_IndexFunc_3.f_eq, find_loop l (fun i => slices_IndexFunc_3.j0 l p l.length i) (fun b => b.1 == p) (fun k => (k : Int)) (some (-1)) (fun k hk => ?hF) ?hE]
    · rw [found_pos, Option.bind_some, findIdx_ge, Option.bind_some]
    case hE => rw [slices_IndexFunc_3.j0_eq, lt_false (Nat.le_refl _), cond_false]
    case hF => rw [slices_IndexFunc_3.j0_eq, lt_true hk, cond_true, idx_nat, List.getElem?_eq_getElem hk, Option.bind_some, gate_Missing_1_1.f_eq, Option.bind_some, wr_succ hk (by omega)]
  rw [gate_filter.f_eq, filter_loop ps (fun acc i => gate_filter.j0 l ps ps.length i acc) (fun p => !(l.any fun b => b.1 == p)) id some (fun acc k hk ha => ?hF) (fun acc ha => ?hE)]
  · rw [List.map_id]; rfl
  case hE => rw [gate_filter.j0_eq, lt_false (Nat.le_refl _), cond_false]
  case hF => rw [gate_filter.j0_eq, lt_true hk, cond_true, idx_nat, List.getElem?_eq_getElem hk, Option.bind_some, hany, Option.bind_some, wr_succ hk (by omega), room8 _ _ (by omega), cond_true]; rfl
def curS (g : GateT) : List BatchT := g.2.2.filter fun b => b.2.1 == g.1
theorem current_eq (g : GateT) (hg : g.2.2.length ≤ lim48) : gate_current.f g = some (curS g) := by
  rw [gate_current.f_eq, filter2_eq _ _ hg]; rfl
theorem rcurrent_eq (g : GateT) (hg : g.2.2.length ≤ lim48) : ref49_current.f g = some (curS g) := by
  have hg' := hg
  unfold lim48 at hg'
  rw [ref49_current.f_eq, filter_loop g.2.2 (fun acc i => ref49_current.j0 i g acc) (fun b => b.2.1 == g.1) id some (fun acc k hk ha => ?hF) (fun acc ha => ?hE)]
  · rw [List.map_id]; rfl
  case hE => rw [ref49_current.j0_eq, lt_false (Nat.le_refl _), cond_false]
  case hF => rw [ref49_current.j0_eq, lt_true hk, cond_true, idx_nat, List.getElem?_eq_getElem hk, Option.bind_some, Option.bind_some, wr_succ hk (by omega), room48 _ _ (by omega), cond_true]; rfl
theorem cur_len (g : GateT) : (curS g).length ≤ g.2.2.length := List.length_filter_le _ _

/-! ### missing players -/
noncomputable def missingS (g : GateT) : List Int := bif gateOK g then missS g.2.1 (curS g) else []
theorem missing_eq (g : GateT) (hg : GatL g) : gate_Missing.f g = some (missingS g) := by
  rw [gate_Missing.f_eq, gateValid_eq g hg, current_eq g hg.2.1]
  have := cur_len g
  have h2 := hg.2.1
  simp only [Option.bind_some]
  rw [filter0_eq _ _ hg.1 (by omega)]
  unfold missingS
  cases gateOK g <;> rfl
theorem rmissing_eq (g : GateT) (hg : GatL g) : ref49_Missing.f g = some (missingS g) := by
  have h1 := hg.1
  have h2 := hg.2.1
  have h3 := cur_len g
  rw [ref49_Missing.f_eq, refGateValid_eq g hg, rcurrent_eq g hg.2.1]
  simp only [Option.bind_some]
  have key : ref49_Missing.j0 (curS g) 0 g [] = some (missS g.2.1 (curS g)) := by
    unfold lim48 at h1 h2
    rw [map_loop (curS g) (fun acc i => ref49_Missing.j0 (curS g) i g acc) (fun b => b.1) (fun acc => ref49_Missing.j1 0 g acc []) (fun acc k hk ha => ?hF) (fun acc ha => ?hE)]
    · rw [filter_loop g.2.1 (fun acc i => ref49_Missing.j1 i g ((curS g).map fun b => b.1) acc) (fun p => !(((curS g).map fun b => b.1).any fun x => p == x)) id some (fun acc k hk ha => ?hG) (fun acc ha => ?hH)]
      · rw [List.map_id]
        unfold missS
        congr 1
        apply List.filter_congr
        intro p _
        rw [List.any_map]
        congr 2
        funext b
        exact Bool.beq_comm
      case hH => rw [ref49_Missing.j1_eq, lt_false (Nat.le_refl _), cond_false]
      case hG =>
        rw [ref49_Missing.j1_eq, lt_true hk, cond_true, idx_nat, List.getElem?_eq_getElem hk, Option.bind_some, has_eq _ _ (by rw [List.length_map]; unfold lim48; omega), Option.bind_some, Option.bind_some, wr_succ hk (by omega), room8 _ _ (by unfold lim48; omega), cond_true]; rfl
    case hE => rw [ref49_Missing.j0_eq, lt_false (Nat.le_refl _), cond_false]
    case hF => rw [ref49_Missing.j0_eq, lt_true hk, cond_true, idx_nat, List.getElem?_eq_getElem hk, Option.bind_some, wr_succ hk (by omega), room8 _ _ (by unfold lim48; omega), cond_true]
  rw [key]
  unfold missingS
  cases gateOK g <;> rfl
noncomputable def openS (g : GateT) : Bool := gateOK g && (decide (0 < g.2.1.length) && (missingS g).isEmpty)
theorem isEmpty_len {α : Type} (l : List α) : ((l.length : Int) == 0) = l.isEmpty := by
  cases l with
  | nil => rfl
  | cons a r => exact beq_eq_false_iff_ne.2 (by simp; omega)
theorem pos_len {α : Type} (l : List α) : decide ((l.length : Int) > 0) = decide (0 < l.length) := by
  by_cases h : 0 < l.length
  · rw [decide_eq_true h, decide_eq_true (by omega)]
  · rw [decide_eq_false h, decide_eq_false (by omega)]
theorem open_eq (g : GateT) (hg : GatL g) : gate_Open.f g = some (openS g) := by
  rw [gate_Open.f_eq, gateValid_eq g hg, missing_eq g hg]
  simp only [Option.bind_some, isEmpty_len, pos_len, c1]
  rfl
theorem ropen_eq (g : GateT) (hg : GatL g) : ref49_Open.f g = some (openS g) := by
  rw [ref49_Open.f_eq, refGateValid_eq g hg, rmissing_eq g hg]
  simp only [Option.bind_some, isEmpty_len, pos_len, c1]
  rfl
end Go.Proofs.Ytdbhfpngfjlgjaa

/- Valid gates, in words of lists. -/
set_option linter.unusedVariables false
set_option linter.unusedSimpArgs false
namespace Go.Proofs.Ytdbhfpngfjlgjaa
open Go Go.Sk

theorem pairwise_of_adj {α : Type} {R : α → α → Prop} (tr : ∀ a b c, R a b → R b c → R a c) : ∀ (l : List α), (∀ (k : Nat) (hk : k + 1 < l.length), R (l[k]'(by omega)) l[k + 1]) → l.Pairwise R
  | [], _ => List.Pairwise.nil
  | [a], _ => List.pairwise_singleton _ _
  | a :: b :: r, h => by
    have ih := pairwise_of_adj tr (b :: r) fun k hk => h (k + 1) (by simpa using hk)
    have hab : R a b := h 0 (by simp)
    refine List.pairwise_cons.2 ⟨fun c hc => ?_, ih⟩
    rcases List.mem_cons.1 hc with rfl | hc
    · exact hab
    · exact tr a b c hab ((List.pairwise_cons.1 ih).1 c hc)
theorem adj_of_pairwise {α : Type} {R : α → α → Prop} {l : List α} (h : l.Pairwise R) (k : Nat) (hk : k + 1 < l.length) : R (l[k]'(by omega)) l[k + 1] := List.pairwise_iff_getElem.1 h k (k + 1) (by omega) hk (by omega)

def Bef (a b : BatchT) : Prop := a.2.1 < b.2.1 ∨ a.2.1 = b.2.1 ∧ a.1 < b.1
theorem beforeS_iff (a b : BatchT) : beforeS a b = true ↔ Bef a b := by
  unfold beforeS Bef
  simp
theorem Bef.tr (a b c : BatchT) (h : Bef a b) (g : Bef b c) : Bef a c := by
  unfold Bef at *
  omega
theorem Bef.irr (a : BatchT) : ¬ Bef a a := by unfold Bef; omega
theorem Bef.asym {a b : BatchT} (h : Bef a b) : ¬ Bef b a := by unfold Bef at *; omega
def PlOK (l : List Int) : Prop := (∀ p ∈ l, 1 ≤ p ∧ p ≤ 6) ∧ l.Pairwise (· < ·)
structure GOK (g : GateT) : Prop where
  t0 : 0 ≤ g.1
  t1 : g.1 ≤ 1048576
  pl : PlOK g.2.1
  ok : ∀ b ∈ g.2.2, batOK b = true
  mem : ∀ b ∈ g.2.2, b.1 ∈ g.2.1
  tu : ∀ b ∈ g.2.2, g.1 ≤ b.2.1
  bef : g.2.2.Pairwise Bef
theorem none_bad {n : Nat} {bad : Nat → Bool} : (!(List.range n).any bad) = true ↔ ∀ k < n, bad k = false := by
  rw [Bool.not_eq_true', List.any_eq_false]
  constructor
  · intro h k hk
    have := h k (List.mem_range.2 hk)
    simpa using this
  · intro h k hk
    rw [h k (List.mem_range.1 hk)]
    simp
theorem plOK_iff (l : List Int) : (∀ k < l.length, badPl l k = false) ↔ PlOK l := by
  constructor
  · intro h
    have h' : ∀ (k : Nat) (hk : k < l.length), 1 ≤ l[k] ∧ l[k] ≤ 6 ∧ ∀ h0 : 0 < k, l[k - 1]'(by omega) < l[k] := fun k hk => by
      have hb := h k hk
      rw [badPl_at l k hk] at hb
      simp only [Bool.or_eq_false_iff, decide_eq_false_iff_not, Bool.and_eq_false_iff] at hb
      refine ⟨by omega, by omega, fun h0 => ?_⟩
      rcases hb.2 with h1 | h1
      · omega
      · rw [List.getElem?_eq_getElem (by omega), Option.elim_some, decide_eq_false_iff_not] at h1
        omega
    refine ⟨fun p hp => ?_, pairwise_of_adj (R := (· < ·)) (fun a b c h1 h2 => Int.lt_trans h1 h2) l fun k hk => (h' (k + 1) hk).2.2 (by omega)⟩
    obtain ⟨k, hk, rfl⟩ := List.getElem_of_mem hp
    exact ⟨(h' k hk).1, (h' k hk).2.1⟩
  · rintro ⟨h1, h2⟩ k hk
    rw [badPl_at l k hk]
    have hk1 := h1 _ (List.getElem_mem hk)
    rw [decide_eq_false (by omega), decide_eq_false (by omega), Bool.false_or, Bool.false_or]
    by_cases h0 : 0 < k
    · rw [List.getElem?_eq_getElem (by omega), Option.elim_some, decide_eq_true h0, Bool.true_and]
      have := List.pairwise_iff_getElem.1 h2 (k - 1) k (by omega) hk (by omega)
      exact decide_eq_false (by omega)
    · rw [decide_eq_false h0]; rfl
theorem any_mem (l : List Int) (p : Int) : (l.any fun x => p == x) = decide (p ∈ l) := by
  by_cases h : p ∈ l
  · rw [decide_eq_true h, List.any_eq_true]
    exact ⟨p, h, beq_self_eq_true p⟩
  · rw [decide_eq_false h, List.any_eq_false]
    intro x hx e
    rw [beq_iff_eq] at e
    exact h (e ▸ hx)
theorem gateOK_iff (g : GateT) : gateOK g = true ↔ GOK g := by
  unfold gateOK
  rw [Bool.and_eq_true, Bool.and_eq_true, Bool.and_eq_true, none_bad, none_bad, plOK_iff, Bool.not_eq_true', Bool.not_eq_true', decide_eq_false_iff_not, decide_eq_false_iff_not]
  constructor
  · rintro ⟨h1, h2, h3, h4⟩
    have h' : ∀ (k : Nat) (hk : k < g.2.2.length), batOK g.2.2[k] = true ∧ g.2.2[k].1 ∈ g.2.1 ∧ g.1 ≤ g.2.2[k].2.1 ∧ ∀ h0 : 0 < k, Bef (g.2.2[k - 1]'(by omega)) g.2.2[k] := fun k hk => by
      have hb := h4 k hk
      rw [badBat_at g k hk] at hb
      simp only [Bool.or_eq_false_iff, Bool.not_eq_false', decide_eq_false_iff_not, Bool.and_eq_false_iff, any_mem, decide_eq_true_eq] at hb
      refine ⟨hb.1.1.1, hb.1.1.2, by have := hb.1.2; omega, fun h0 => ?_⟩
      rcases hb.2 with h1 | h1
      · omega
      · rw [List.getElem?_eq_getElem (by omega), Option.elim_some, Bool.not_eq_false'] at h1
        exact (beforeS_iff _ _).1 h1
    have hm : ∀ b ∈ g.2.2, batOK b = true ∧ b.1 ∈ g.2.1 ∧ g.1 ≤ b.2.1 := fun b hb => by
      obtain ⟨k, hk, rfl⟩ := List.getElem_of_mem hb
      exact ⟨(h' k hk).1, (h' k hk).2.1, (h' k hk).2.2.1⟩
    exact ⟨by omega, by omega, h3, fun b hb => (hm b hb).1, fun b hb => (hm b hb).2.1, fun b hb => (hm b hb).2.2, pairwise_of_adj Bef.tr _ fun k hk => (h' (k + 1) hk).2.2.2 (by omega)⟩
  · rintro ⟨h1, h2, h3, h4, h5, h6, h7⟩
    refine ⟨by omega, by omega, h3, fun k hk => ?_⟩
    rw [badBat_at g k hk]
    have hm := List.getElem_mem hk
    rw [h4 _ hm, any_mem, decide_eq_true (h5 _ hm), decide_eq_false (by have := h6 _ hm; omega)]
    simp only [Bool.not_true, Bool.false_or]
    by_cases h0 : 0 < k
    · rw [List.getElem?_eq_getElem (by omega), Option.elim_some, (beforeS_iff _ _).2 (List.pairwise_iff_getElem.1 h7 (k - 1) k (by omega) hk (by omega)), decide_eq_true h0]
      rfl
    · rw [decide_eq_false h0]; rfl
theorem GOK.few {g : GateT} (h : GOK g) : g.2.1.length ≤ 6 := by
  obtain ⟨h1, h2⟩ := h.pl
  have key : ∀ (l : List Int) (lo : Int) (n : Nat), (∀ p ∈ l, lo ≤ p ∧ p < lo + n) → l.Pairwise (· < ·) → l.length ≤ n := by
    intro l
    induction l with
    | nil => intros; simp
    | cons a r ih =>
      intro lo n hb hp
      obtain ⟨ha, hr⟩ := List.pairwise_cons.1 hp
      have hab := hb a (by simp)
      have := ih (a + 1) (n - 1) (fun p hp => by have := ha p hp; have := hb p (by simp [hp]); omega) hr
      simp only [List.length_cons]
      omega
  exact key _ 1 6 (fun p hp => by have := h1 p hp; omega) h2
end Go.Proofs.Ytdbhfpngfjlgjaa

/- Merged batches, where the players ascend. -/
set_option linter.unusedVariables false
set_option linter.unusedSimpArgs false
namespace Go.Proofs.Ytdbhfpngfjlgjaa
open Go Go.Sk

def Asc (l : List BatchT) : Prop := l.Pairwise fun a b => a.1 ≤ b.1
theorem Asc.at {l : List BatchT} (h : Asc l) (k : Nat) (hk : k < l.length) (h0 : 0 < k) : (l[k - 1]'(by omega)).1 ≤ l[k].1 := List.pairwise_iff_getElem.1 h (k - 1) k (by omega) hk (by omega)
theorem ins_loop (o : List BatchT) (hl : o.length ≤ 19) (ha : Asc o) : ∀ m k : Nat, 1 ≤ k → k ≤ 20 → o.length ≤ k + m → slices_insertionSortCmpFunc.j0 o 0 o.length k = some () := by
  intro m
  induction m with
  | zero =>
    intro k h1 h3 h2
    rw [slices_insertionSortCmpFunc.j0_eq, lt_false (by omega), cond_false]
  | succ m ih =>
    intro k h1 h3 h2
    by_cases hk : k < o.length
    · rw [slices_insertionSortCmpFunc.j0_eq, lt_true hk, cond_true, slices_insertionSortCmpFunc.j1_eq, decide_eq_true (by omega : (k : Int) > 0), cond_true, prev_idx _ _ hk (by omega) (by omega), idx_nat, List.getElem?_eq_getElem hk, Option.bind_some, Option.bind_some, input_Merge_1.f_eq]
      have hle := ha.at k hk (by omega)
      rw [decide_eq_false (by omega : ¬ o[k].1 < (o[k - 1]'(by omega)).1), cond_false, wr_succ hk (by omega)]
      have ih' := ih (k + 1) (by omega) (by omega) (by omega)
      cases decide (o[k].1 > (o[k - 1]'(by omega)).1)
      · exact ih'
      · exact ih'
    · rw [slices_insertionSortCmpFunc.j0_eq, lt_false (by omega), cond_false]
theorem sort_eq (o : List BatchT) (hl : o.length ≤ 19) (ha : Asc o) : slices_SortStableFunc.f o = some o := by
  have h1 : slices_insertionSortCmpFunc.f o 0 o.length = some () := by
    rw [slices_insertionSortCmpFunc.f_eq]
    exact ins_loop o hl ha 20 1 (by omega) (by omega) (by omega)
  rw [slices_SortStableFunc.f_eq, slices_stableCmpFunc.f_eq, slices_stableCmpFunc.j0_eq, decide_eq_false (by omega : ¬ (20 : Int) ≤ o.length), cond_false, h1, Option.bind_some, slices_stableCmpFunc.j1_eq, decide_eq_false (by omega : ¬ (20 : Int) < o.length), cond_false]
  rfl
theorem room96 (n : Nat) (e : CmdT) (acc : List CmdT) (h : acc.length ≤ n) (hn : n ≤ 100000000) : decide ((List.length acc + List.length [e]) * 96 ≤ 140737488355328) = true := decide_eq_true (by simp; omega)
def cmdsS (l : List BatchT) : List CmdT := l.flatMap fun b => b.2.2.2
theorem fold_app {α β : Type} (f : β → List α) : ∀ (l : List β) (acc : List α), l.foldl (fun acc b => acc ++ f b) acc = acc ++ l.flatMap f
  | [], acc => by simp
  | b :: r, acc => by rw [List.foldl_cons, fold_app f r]; simp
theorem merge_inner (o1 : List BatchT) (n : Int) (k : Int) (cs : List CmdT) (hc : cs.length ≤ lim48) (hL : ∀ c ∈ cs, CmdL c) (acc : List CmdT) (ha : acc.length ≤ 19 * lim48) :
    input_Merge.j1 n k cs cs.length 0 acc o1 = input_Merge.j0 n (IntKind.i64.wrap (k + 1)) (acc ++ cs) o1 := by
  unfold lim48 at hc ha
  rw [fold_loop cs (fun a i => input_Merge.j1 n k cs cs.length i a o1) (fun a c => a ++ [c]) (fun a j => a.length = acc.length + j) (fun a => input_Merge.j0 n (IntKind.i64.wrap (k + 1)) a o1) (fun a j hj hi => ?hF) (fun a j hj hi => ?hI) (fun a hi => ?hE) acc rfl]
  · have := fold_app (fun c : CmdT => [c]) cs acc
    rw [this]
    simp
  case hF =>
    have hcl := hL _ (List.getElem_mem hj)
    rw [input_Merge.j1_eq, lt_true hj, cond_true, idx_nat, List.getElem?_eq_getElem hj, Option.bind_some, clone_int _ hcl.1, Option.bind_some, wr_succ hj (by omega), room96 60000000 _ _ (by omega) (by omega), cond_true]
  case hI => rw [List.length_append]; simp; omega
  case hE => rw [input_Merge.j1_eq, lt_false (Nat.le_refl _), cond_false]
theorem merge_eq (l : List BatchT) (hl : l.length ≤ 19) (ha : Asc l) (hL : ∀ b ∈ l, BatL b) : input_Merge.f l = some (cmdsS l) := by
  rw [input_Merge.f_eq, clone_batch _ (by unfold lim48; omega), Option.bind_some, sort_eq l hl ha, Option.bind_some]
  rw [fold_loop l (fun a i => input_Merge.j0 l.length i a l) (fun a b => a ++ b.2.2.2) (fun a j => a.length ≤ j * lim48) some (fun a j hj hi => ?hF) (fun a j hj hi => ?hI) (fun a hi => ?hE) [] (Nat.zero_le _)]
  · rw [fold_app (fun b : BatchT => b.2.2.2) l []]
    rfl
  case hF =>
    have hb := hL _ (List.getElem_mem hj)
    have hj19 : j * lim48 ≤ 18 * lim48 := Nat.mul_le_mul_right _ (by omega)
    have hroom : a.length ≤ 19 * lim48 := Nat.le_trans hi (Nat.le_trans hj19 (Nat.mul_le_mul_right _ (by omega)))
    rw [input_Merge.j0_eq, lt_true hj, cond_true, decide_eq_true (by omega : (0 : Int) ≤ (j : Int)), Bool.true_and, cond_true, Int.toNat_natCast, List.getElem?_eq_getElem hj, Option.bind_some, merge_inner _ _ _ _ hb.1 hb.2 _ hroom, wr_succ hj (by omega)]
  case hI =>
    have hb := (hL _ (List.getElem_mem hj)).1
    rw [List.length_append, Nat.add_mul]
    omega
  case hE => rw [input_Merge.j0_eq, lt_false (Nat.le_refl _), cond_false]
theorem rmerge_step (l : List BatchT) (i : Nat) (hi : i < l.length) (hl : l.length ≤ 60) (ha : Asc l) : ref46_Merge.j0 l i (l.take i) = ref46_Merge.j0 l ((i + 1 : Nat) : Int) (l.take (i + 1)) := by
  have hlen : (l.take i).length = i := by rw [List.length_take]; omega
  have e : l.take (i + 1) = l.take i ++ [l[i]] := by rw [List.take_add_one, List.getElem?_eq_getElem hi]; rfl
  rw [ref46_Merge.j0_eq, lt_true hi, cond_true, ref46_Merge.j1_eq]
  have q1 : decide ((i + 1) * 48 ≤ 140737488355328) = true := decide_eq_true (by omega)
  have q2 : decide (i * 48 ≤ 140737488355328) = true := decide_eq_true (by omega)
  have tail : (bif (decide ((0 : Int) ≤ 0) && decide ((0 : Int) ≤ ((l.take i).length : Int)) && decide (((l.take i).length : Int) ≤ ((l.take i).length : Int))) then (bif decide (0 + Int.toNat (((l.take i).length : Int) - 0) ≤ (l.take i).length) then (bif decide (List.length (List.take (Int.toNat (((l.take i).length : Int) - 0)) (List.drop 0 (l.take i))) * 48 ≤ 140737488355328) then ((idx l (i : Int)).bind fun e2 => (bif decide ((List.length (List.take (Int.toNat (((l.take i).length : Int) - 0)) (List.drop 0 (l.take i))) + List.length [e2]) * 48 ≤ 140737488355328) then (bif (decide ((0 : Int) ≤ ((l.take i).length : Int)) && decide (((l.take i).length : Int) ≤ ((l.take i).length : Int)) && decide (((l.take i).length : Int) ≤ ((l.take i).length : Int))) then (bif decide (Int.toNat ((l.take i).length : Int) + Int.toNat (((l.take i).length : Int) - ((l.take i).length : Int)) ≤ (l.take i).length) then (bif decide ((List.length (List.take (Int.toNat (((l.take i).length : Int) - 0)) (List.drop 0 (l.take i)) ++ [e2]) + List.length (List.take (Int.toNat (((l.take i).length : Int) - ((l.take i).length : Int))) (List.drop (Int.toNat ((l.take i).length : Int)) (l.take i)))) * 48 ≤ 140737488355328) then (ref46_Merge.j0 l (IntKind.i64.wrap ((i : Int) + 1)) (List.take (Int.toNat (((l.take i).length : Int) - 0)) (List.drop 0 (l.take i)) ++ [e2] ++ List.take (Int.toNat (((l.take i).length : Int) - ((l.take i).length : Int))) (List.drop (Int.toNat ((l.take i).length : Int)) (l.take i)))) else none) else none) else none) else none)) else none) else none) else none) = ref46_Merge.j0 l ((i + 1 : Nat) : Int) (l.take (i + 1)) := by
    rw [e]
    generalize l.take i = p at hlen ⊢
    subst hlen
    simp only [Int.sub_zero, Int.toNat_natCast, List.drop_zero, List.take_length, Int.sub_self, Int.toNat_zero, List.take_zero, List.append_nil, Nat.zero_add, Nat.add_zero, List.length_append, List.length_nil, List.length_singleton, List.length_cons, Nat.le_refl, decide_true, Bool.and_true, idx_nat, List.getElem?_eq_getElem hi, Option.bind_some, Int.le_refl, q1, q2, cond_true, decide_eq_true (by omega : (0 : Int) ≤ (p.length : Int)), wr_succ hi (by omega : l.length ≤ 9223372036854775807)]
  by_cases h0 : 0 < i
  · have hle := ha.at i hi h0
    have e0 : IntKind.i64.wrap (((l.take i).length : Int) - 1) = ((i - 1 : Nat) : Int) := by rw [hlen, wr_in (by omega) (by omega)]; omega
    have e1 : (l.take i)[Int.toNat ((i - 1 : Nat) : Int)]? = some (l[i - 1]'(by omega)) := by
      rw [Int.toNat_natCast, List.getElem?_take, if_pos (by omega), List.getElem?_eq_getElem (by omega)]
    rw [decide_eq_true (by omega : ((l.take i).length : Int) > 0), cond_true, e0, decide_eq_true (by omega : (0 : Int) ≤ ((i - 1 : Nat) : Int)), decide_eq_true (by omega : ((i - 1 : Nat) : Int) < ((l.take i).length : Int)), Bool.and_self, cond_true, e1, Option.bind_some]
    have e2 : idx l (i : Int) = some l[i] := by rw [idx_nat, List.getElem?_eq_getElem hi]
    rw [e2, Option.bind_some, decide_eq_false (by omega : ¬ (l[i - 1]'(by omega)).1 > l[i].1), cond_false]
    rw [e2] at tail
    exact tail
  · rw [decide_eq_false (by omega : ¬ ((l.take i).length : Int) > 0), cond_false]
    exact tail
theorem rmerge_eq (l : List BatchT) (hl : l.length ≤ 60) (ha : Asc l) (hL : ∀ b ∈ l, BatL b) : ref46_Merge.f l = some (cmdsS l) := by
  have h1 : ∀ m i : Nat, i + m = l.length → ref46_Merge.j0 l i (l.take i) = ref46_Merge.j2 0 l [] := by
    intro m
    induction m with
    | zero =>
      intro i hi
      rw [ref46_Merge.j0_eq, lt_false (by omega), cond_false, List.take_of_length_le (by omega)]
    | succ m ih =>
      intro i hi
      rw [rmerge_step l i (by omega) hl ha]
      exact ih (i + 1) (by omega)
  have h2 := h1 l.length 0 (by omega)
  rw [ref46_Merge.f_eq]
  refine h2.trans ?_
  rw [fold_loop l (fun a i => ref46_Merge.j2 i l a) (fun a b => a ++ b.2.2.2) (fun a j => a.length ≤ j * lim48) some (fun a j hj hi => ?hF) (fun a j hj hi => ?hI) (fun a hi => ?hE) [] (Nat.zero_le _)]
  · rw [fold_app (fun b : BatchT => b.2.2.2) l []]
    rfl
  case hF =>
    have hb := (hL _ (List.getElem_mem hj)).1
    have hj19 : j * lim48 ≤ 60 * lim48 := Nat.mul_le_mul_right _ (by omega)
    have hroom : (a.length + l[j].2.2.2.length) * 96 ≤ 140737488355328 := by
      have h9 : a.length + l[j].2.2.2.length ≤ 61 * lim48 := by
        have := Nat.le_trans hi hj19
        rw [show 61 * lim48 = 60 * lim48 + lim48 from Nat.succ_mul 60 lim48]
        exact Nat.add_le_add this hb
      exact Nat.le_trans (Nat.mul_le_mul_right 96 h9) (by decide)
    rw [ref46_Merge.j2_eq, lt_true hj, cond_true, decide_eq_true (by omega : (0 : Int) ≤ (j : Int)), Bool.true_and, cond_true, Int.toNat_natCast, List.getElem?_eq_getElem hj, Option.bind_some, decide_eq_true hroom, cond_true, wr_succ hj (by omega)]
  case hI =>
    have hb := (hL _ (List.getElem_mem hj)).1
    rw [List.length_append, Nat.add_mul]
    omega
  case hE => rw [ref46_Merge.j2_eq, lt_false (Nat.le_refl _), cond_false]
end Go.Proofs.Ytdbhfpngfjlgjaa

/- New, Leave and Take: the code and the reference come to the same. -/
set_option linter.unusedVariables false
set_option linter.unusedSimpArgs false
namespace Go.Proofs.Ytdbhfpngfjlgjaa
open Go Go.Sk

abbrev gate0 : GateT := (0, [], [])
/-! ### New -/
noncomputable def newS (turn : Int) (ps : List Int) : GateT × Int := bif gateOK (turn, ps, []) then ((turn, ps, []), 0) else (gate0, 1)
theorem GatL.nil (turn : Int) {ps : List Int} (h : ps.length ≤ lim48) : GatL (turn, ps, []) := ⟨h, Nat.zero_le _, fun b hb => by simp at hb⟩
theorem new_eq (turn : Int) (ps : List Int) (h : ps.length ≤ lim48) : gate_New.f turn ps = some (newS turn ps) := by
  rw [gate_New.f_eq, clone_int _ h, Option.bind_some, gateValid_eq _ (GatL.nil turn h), Option.bind_some]
  unfold newS
  cases gateOK (turn, ps, []) <;> rfl
theorem rnew_eq (turn : Int) (ps : List Int) (h : ps.length ≤ lim48) : ref49_New.f turn ps = some (newS turn ps) := by
  have h' := h
  unfold lim48 at h'
  rw [ref49_New.f_eq, decide_eq_true (by omega : ps.length * 8 ≤ 140737488355328), cond_true, refGateValid_eq _ (GatL.nil turn h), Option.bind_some]
  unfold newS
  cases gateOK (turn, ps, []) <;> rfl

/-! ### a gate without a player -/
def withoutS (g : GateT) (p : Int) : GateT := (g.1, g.2.1.filter (fun q => q != p), g.2.2.filter fun b => b.1 != p)
theorem without_eq (g : GateT) (p : Int) (hg : GatL g) : gate_without.f g p = some (withoutS g p) := by
  rw [gate_without.f_eq, filter3_eq _ _ hg.1, filter4_eq _ _ hg.2.1]; rfl
theorem withoutL {g : GateT} (p : Int) (h : GatL g) : GatL (withoutS g p) :=
  ⟨Nat.le_trans (List.length_filter_le _ _) h.1, Nat.le_trans (List.length_filter_le _ _) h.2.1, fun b hb => h.2.2 b (List.mem_filter.1 hb).1⟩
theorem withoutOK {g : GateT} (p : Int) (h : GOK g) : GOK (withoutS g p) where
  t0 := h.t0
  t1 := h.t1
  pl := ⟨fun q hq => h.pl.1 q (List.mem_filter.1 hq).1, h.pl.2.filter _⟩
  ok := fun b hb => h.ok b (List.mem_filter.1 hb).1
  mem := fun b hb => List.mem_filter.2 ⟨h.mem b (List.mem_filter.1 hb).1, (List.mem_filter.1 hb).2⟩
  tu := fun b hb => h.tu b (List.mem_filter.1 hb).1
  bef := h.bef.filter _
noncomputable def leaveS (g : GateT) (p : Int) : GateT := bif gateOK g then withoutS g p else g
theorem leave_eq (g : GateT) (p : Int) (hg : GatL g) : gate_Leave.f g p = some (leaveS g p) := by
  rw [gate_Leave.f_eq, gateValid_eq g hg, gclone_eq g hg.1 hg.2.1, Option.bind_some, Option.bind_some, Option.bind_some, without_eq (g.1, g.2.1, g.2.2) p hg, Option.bind_some]
  unfold leaveS
  cases gateOK g <;> rfl
theorem rleave_eq (g : GateT) (p : Int) (hg : GatL g) : ref49_Leave.f g p = some (leaveS g p) := by
  have h1 := hg.1
  have h2 := hg.2.1
  unfold lim48 at h1 h2
  rw [ref49_Leave.f_eq, refGateValid_eq g hg, Option.bind_some]
  have key : ref49_Leave.j0 p 0 g 0 [] [] g.1 [] [] = some (withoutS g p) := by
    rw [filter_loop g.2.1 (fun acc i => ref49_Leave.j0 p i g 0 [] [] g.1 acc []) (fun q => q != p) id (fun acc => ref49_Leave.j1 p 0 g 0 [] [] g.1 acc []) (fun acc k hk ha => ?hF) (fun acc ha => ?hE)]
    · rw [List.map_id]
      rw [filter_loop g.2.2 (fun acc i => ref49_Leave.j1 p i g 0 [] [] g.1 (g.2.1.filter fun q => q != p) acc) (fun b => b.1 != p) id (fun acc => some (g.1, g.2.1.filter (fun q => q != p), acc)) (fun acc k hk ha => ?hG) (fun acc ha => ?hH)]
      · rw [List.map_id]; rfl
      case hH => rw [ref49_Leave.j1_eq, lt_false (Nat.le_refl _), cond_false]
      case hG => rw [ref49_Leave.j1_eq, lt_true hk, cond_true, idx_nat, List.getElem?_eq_getElem hk, Option.bind_some, Option.bind_some, wr_succ hk (by omega), room48 _ _ (by unfold lim48; omega), cond_true]; rfl
    case hE => rw [ref49_Leave.j0_eq, lt_false (Nat.le_refl _), cond_false]
    case hF => rw [ref49_Leave.j0_eq, lt_true hk, cond_true, idx_nat, List.getElem?_eq_getElem hk, Option.bind_some, Option.bind_some, wr_succ hk (by omega), room8 _ _ (by unfold lim48; omega), cond_true]; rfl
  rw [key]
  unfold leaveS
  cases gateOK g <;> rfl
theorem leave_ok {g : GateT} (p : Int) (h : GOK g) : leaveS g p = withoutS g p := by
  unfold leaveS
  rw [(gateOK_iff g).2 h]; rfl

/-! ### Take -/
def resigns (b : BatchT) : Bool := b.2.2.2.any fun c => c.2.1 == 12
def dropS (l : List BatchT) (g : GateT) : GateT := l.foldl (fun h b => bif resigns b then withoutS h b.1 else h) g
theorem dropS_parts : ∀ (l : List BatchT) (g : GateT), dropS l g = (g.1, g.2.1.filter (fun q => l.all fun b => !resigns b || q != b.1), g.2.2.filter fun x => l.all fun b => !resigns b || x.1 != b.1)
  | [], g => by
    show g = (g.1, g.2.1.filter (fun _ => true), g.2.2.filter fun _ => true)
    rw [List.filter_eq_self.2 (fun _ _ => rfl), List.filter_eq_self.2 (fun _ _ => rfl)]
  | b :: r, g => by
    show dropS r (bif resigns b then withoutS g b.1 else g) = _
    rw [dropS_parts r]
    cases h : resigns b with
    | false => simp [h]
    | true =>
      simp only [cond_true, withoutS, List.filter_filter, List.all_cons, h, Bool.not_true, Bool.false_or]
      congr 2
      · apply List.filter_congr; intro q _; rw [Bool.and_comm]
      · apply List.filter_congr; intro q _; rw [Bool.and_comm]
theorem resign_eq (cs : List CmdT) (hc : cs.length ≤ lim48) : slices_ContainsFunc_1.f cs = some (cs.any fun c => c.2.1 == 12) := by
  have hc' := hc
  unfold lim48 at hc'
  rw [slices_ContainsFunc_1.f_eq, slices_IndexFunc_2.f_eq, find_loop cs (fun i => slices_IndexFunc_2.j0 cs cs.length i) (fun c => c.2.1 == 12) (fun k => (k : Int)) (some (-1)) (fun k hk => ?hF) ?hE]
  · rw [found_pos, Option.bind_some, findIdx_ge]
  case hE => rw [slices_IndexFunc_2.j0_eq, lt_false (Nat.le_refl _), cond_false]
  case hF => rw [slices_IndexFunc_2.j0_eq, lt_true hk, cond_true, idx_nat, List.getElem?_eq_getElem hk, Option.bind_some, gate_Take_2.f_eq, Option.bind_some, wr_succ hk (by omega)]
theorem take_loop (l : List BatchT) (g h : GateT) (hl : l.length ≤ lim48) (hL : ∀ b ∈ l, BatL b) (hh : GatL h) (r : List CmdT) (hm : input_Merge.f l = some r) :
    gate_Take.j0 l l l.length 0 0 [] [] h.1 h.2.2 h.2.1 = some (dropS l h, r, 0) := by
  have hl' := hl
  unfold lim48 at hl'
  have h0 : ∀ m k : Nat, k + m = l.length → gate_Take.j0 l l l.length k 0 [] [] h.1 h.2.2 h.2.1 = gate_Take.j1 l l l.length k 0 [] [] h := by
    intro m
    induction m with
    | zero =>
      intro k hk
      rw [gate_Take.j0_eq, gate_Take.j1_eq, lt_false (by omega), cond_false, cond_false]
    | succ m ih =>
      intro k hk
      have hlt : k < l.length := by omega
      rw [gate_Take.j0_eq, gate_Take.j1_eq, lt_true hlt, cond_true, cond_true, wr_succ hlt (by omega), ih (k + 1) (by omega)]
  refine (h0 l.length 0 (by omega)).trans ?_
  show gate_Take.j1 l l l.length 0 0 [] [] h = _
  rw [fold_loop l (fun h i => gate_Take.j1 l l l.length i 0 [] [] h) (fun h b => bif resigns b then withoutS h b.1 else h) (fun h _ => GatL h) (fun h => some (h, r, 0)) (fun h k hk hi => ?hF) (fun h k hk hi => ?hI) (fun h hi => ?hE) h hh]
  · rfl
  case hF =>
    have hb := hL _ (List.getElem_mem hk)
    rw [gate_Take.j1_eq, lt_true hk, cond_true, idx_nat, List.getElem?_eq_getElem hk, Option.bind_some, resign_eq _ hb.1, Option.bind_some, without_eq _ _ hi, Option.bind_some, wr_succ hk (by omega)]
    unfold resigns
    cases l[k].2.2.2.any fun c => c.2.1 == 12 <;> rfl
  case hI =>
    cases resigns l[k]
    · exact hi
    · exact withoutL _ hi
  case hE => rw [gate_Take.j1_eq, lt_false (Nat.le_refl _), cond_false, hm, Option.bind_some]
noncomputable def takeS (g : GateT) : GateT × List CmdT × Int :=
  bif !gateOK g then (gate0, [], 1) else bif !openS g then (gate0, [], 23) else bif g.1 == 1048576 then (gate0, [], 23) else (dropS (curS g) (g.1 + 1, g.2.1, g.2.2.filter fun b => b.2.1 != g.1), cmdsS (curS g), 0)
theorem cur_asc {g : GateT} (h : GOK g) : Asc (curS g) ∧ (curS g).length ≤ 19 := by
  have hp : (curS g).Pairwise fun a b => a.1 < b.1 := by
    have := h.bef.filter (fun b => b.2.1 == g.1)
    refine List.Pairwise.imp_of_mem (fun {a b} ha hb hr => ?_) this
    have h1 := (List.mem_filter.1 ha).2
    have h2 := (List.mem_filter.1 hb).2
    simp only [beq_iff_eq] at h1 h2
    unfold Bef at hr
    omega
  refine ⟨hp.imp fun h => by omega, ?_⟩
  have hm : ((curS g).map fun b => b.1).length ≤ 6 := by
    refine GOK.few (g := (0, (curS g).map (fun b => b.1), [])) ⟨by simp, by simp, ⟨fun p hp => ?_, List.pairwise_map.2 hp⟩, by simp, by simp, by simp, List.Pairwise.nil⟩
    obtain ⟨b, hb, rfl⟩ := List.mem_map.1 hp
    exact h.pl.1 _ (h.mem b (List.mem_filter.1 hb).1)
  rw [List.length_map] at hm
  omega
theorem cur_L {g : GateT} (h : GatL g) : ∀ b ∈ curS g, BatL b := fun b hb => h.2.2 b (List.mem_filter.1 hb).1
theorem take_eq (g : GateT) (hg : GatL g) : gate_Take.f g = some (takeS g) := by
  rw [gate_Take.f_eq, gateValid_eq g hg, open_eq g hg, current_eq g hg.2.1, gclone_eq g hg.1 hg.2.1]
  simp only [Option.bind_some]
  rw [filter1_eq _ _ hg.2.1, Option.bind_some]
  unfold takeS
  cases hok : gateOK g with
  | false => rfl
  | true =>
    have h := (gateOK_iff g).1 hok
    cases openS g with
    | false => rfl
    | true =>
      simp only [Bool.not_true, cond_false]
      by_cases ht : g.1 = 1048576
      · rw [ht]; rfl
      · rw [beq_eq_false_iff_ne.2 ht, cond_false]
        have h0 := h.t0
        have h1 := h.t1
        rw [wr_in (by omega) (by omega)]
        have hlen := cur_len g
        have := take_loop (curS g) g (g.1 + 1, g.2.1, g.2.2.filter fun b => b.2.1 != g.1) (Nat.le_trans hlen hg.2.1) (cur_L hg) ⟨hg.1, Nat.le_trans (List.length_filter_le _ _) hg.2.1, fun b hb => hg.2.2 b (List.mem_filter.1 hb).1⟩ _ (merge_eq _ (cur_asc h).2 (cur_asc h).1 (cur_L hg))
        exact this
/-! the reference's -/
theorem rtake_inner (l : List BatchT) (i : Nat) (hi : i < l.length) (hl : l.length ≤ lim48) (hb : BatL l[i]) (g h : GateT) (hL : GatL h) (hO : GOK h) :
    ref49_Take.j1 l i 0 g 0 [] [] h = ref49_Take.j0 l ((i + 1 : Nat) : Int) g 0 [] [] (bif resigns l[i] then withoutS h l[i].1 else h) := by
  have hc := hb.1
  have hl' := hl
  unfold lim48 at hc hl'
  have hidx : idx l (i : Int) = some l[i] := by rw [idx_nat, List.getElem?_eq_getElem hi]
  rw [fold_loop l[i].2.2.2 (fun h k => ref49_Take.j1 l i k g 0 [] [] h) (fun h c => bif c.2.1 == 12 then withoutS h l[i].1 else h) (fun h _ => GatL h ∧ GOK h) (fun h => ref49_Take.j0 l ((i + 1 : Nat) : Int) g 0 [] [] h) (fun h k hk hh => ?hF) (fun h k hk hh => ?hI) (fun h hh => ?hE) h ⟨hL, hO⟩]
  · congr 1
    have idem : ∀ h, withoutS (withoutS h l[i].1) l[i].1 = withoutS h l[i].1 := fun h => by simp [withoutS, List.filter_filter]
    have key : ∀ (cs : List CmdT) (h : GateT), cs.foldl (fun h c => bif c.2.1 == 12 then withoutS h l[i].1 else h) h = bif cs.any (fun c => c.2.1 == 12) then withoutS h l[i].1 else h := by
      intro cs
      induction cs with
      | nil => intro h; rfl
      | cons c r ih =>
        intro h
        rw [List.foldl_cons, ih, List.any_cons]
        cases c.2.1 == 12 with
        | false => rfl
        | true =>
          simp only [cond_true, Bool.true_or, idem]
          cases r.any fun c => c.2.1 == 12 <;> rfl
    exact key _ h
  case hF =>
    rw [ref49_Take.j1_eq, hidx, Option.bind_some, lt_true hk, cond_true, Option.bind_some, idx_nat, List.getElem?_eq_getElem hk, Option.bind_some, Option.bind_some, rleave_eq _ _ hh.1, Option.bind_some, leave_ok _ hh.2, wr_succ hk (by omega)]
    cases l[i].2.2.2[k].2.1 == 12 <;> rfl
  case hI =>
    cases l[i].2.2.2[k].2.1 == 12
    · exact hh
    · exact ⟨withoutL _ hh.1, withoutOK _ hh.2⟩
  case hE => rw [ref49_Take.j1_eq, hidx, Option.bind_some, lt_false (Nat.le_refl _), cond_false, wr_succ hi (by omega)]
theorem dropOK : ∀ (l : List BatchT) {g : GateT}, GOK g → GOK (dropS l g)
  | [], g, h => h
  | b :: r, g, h => by
    show GOK (dropS r (bif resigns b then withoutS g b.1 else g))
    cases resigns b
    · exact dropOK r h
    · exact dropOK r (withoutOK _ h)
theorem dropL : ∀ (l : List BatchT) {g : GateT}, GatL g → GatL (dropS l g)
  | [], g, h => h
  | b :: r, g, h => by
    show GatL (dropS r (bif resigns b then withoutS g b.1 else g))
    cases resigns b
    · exact dropL r h
    · exact dropL r (withoutL _ h)
theorem drop_same (l : List BatchT) {g : GateT} (h : GOK g) : (g.1 + 1, (dropS l g).2.1, (dropS l g).2.2.filter fun b => decide (b.2.1 > g.1)) = dropS l (g.1 + 1, g.2.1, g.2.2.filter fun b => b.2.1 != g.1) := by
  rw [dropS_parts, dropS_parts]
  simp only [List.filter_filter]
  congr 2
  apply List.filter_congr
  intro b hb
  have := h.tu b hb
  rw [Bool.and_comm]
  congr 1
  by_cases he : b.2.1 = g.1
  · rw [he, decide_eq_false (by omega)]; simp
  · rw [decide_eq_true (by omega), bne_iff_ne.2 he]
theorem rtake_eq (g : GateT) (hg : GatL g) : ref49_Take.f g = some (takeS g) := by
  rw [ref49_Take.f_eq, refGateValid_eq g hg, ropen_eq g hg, rcurrent_eq g hg.2.1]
  simp only [Option.bind_some]
  unfold takeS
  cases hok : gateOK g with
  | false => rfl
  | true =>
    have h := (gateOK_iff g).1 hok
    cases openS g with
    | false => rfl
    | true =>
      simp only [Bool.not_true, cond_false]
      by_cases ht : g.1 = 1048576
      · rw [ht]; rfl
      · rw [beq_eq_false_iff_ne.2 ht, cond_false, cond_false]
        have h0 := h.t0
        have h1 := h.t1
        have hlen := cur_asc h
        have hl60 : (curS g).length ≤ lim48 := by unfold lim48; omega
        rw [fold_loop (curS g) (fun h i => ref49_Take.j0 (curS g) i g 0 [] [] h) (fun h b => bif resigns b then withoutS h b.1 else h) (fun h _ => GatL h ∧ GOK h) (fun h => ref49_Take.j2 (curS g) 0 g 0 [] [] h (g.1 + 1) h.2.1 []) (fun h k hk hh => ?hF) (fun h k hk hh => ?hI) (fun h hh => ?hE) g ⟨hg, h⟩]
        · have hd := dropL (curS g) hg
          have hd2 := hd.2.1
          show ref49_Take.j2 (curS g) 0 g 0 [] [] (dropS (curS g) g) (g.1 + 1) (dropS (curS g) g).2.1 [] = _
          rw [← drop_same (curS g) h]
          generalize dropS (curS g) g = q at hd2 ⊢
          unfold lim48 at hd2
          rw [filter_loop q.2.2 (fun acc i => ref49_Take.j2 (curS g) i g 0 [] [] q (g.1 + 1) q.2.1 acc) (fun b => decide (b.2.1 > g.1)) id (fun acc => some ((g.1 + 1, q.2.1, acc), cmdsS (curS g), 0)) (fun acc k hk ha => ?hG) (fun acc ha => ?hH)]
          · rw [List.map_id]
          case hH => rw [ref49_Take.j2_eq, lt_false (Nat.le_refl _), cond_false, rmerge_eq _ (by omega) hlen.1 (cur_L hg), Option.bind_some]
          case hG => rw [ref49_Take.j2_eq, lt_true hk, cond_true, idx_nat, List.getElem?_eq_getElem hk, Option.bind_some, Option.bind_some, wr_succ hk (by omega), room48 _ _ (by unfold lim48; omega), cond_true]; rfl
        case hF => rw [ref49_Take.j0_eq, lt_true hk, cond_true, rtake_inner _ _ hk hl60 (cur_L hg _ (List.getElem_mem hk)) _ _ hh.1 hh.2]
        case hI =>
          cases resigns (curS g)[k]
          · exact hh
          · exact ⟨withoutL _ hh.1, withoutOK _ hh.2⟩
        case hE => rw [ref49_Take.j0_eq, lt_false (Nat.le_refl _), cond_false, wr_in (by omega) (by omega)]
theorem take_ok (g : GateT) (hz : (takeS g).2.2 = 0) : GOK g ∧ openS g = true ∧ g.1 ≠ 1048576 ∧ GOK (takeS g).1 := by
  unfold takeS at hz ⊢
  cases hok : gateOK g with
  | false => rw [hok] at hz; cases hz
  | true =>
    have h := (gateOK_iff g).1 hok
    rw [hok] at hz
    cases ho : openS g with
    | false => rw [ho] at hz; cases hz
    | true =>
      rw [ho] at hz
      by_cases ht : g.1 = 1048576
      · rw [ht] at hz; cases hz
      · refine ⟨h, rfl, ht, ?_⟩
        simp only [Bool.not_true, cond_false]
        rw [beq_eq_false_iff_ne.2 ht, cond_false]
        have h0 := h.t0
        have h1 := h.t1
        rw [← drop_same (curS g) h]
        have hd := dropOK (curS g) h
        exact ⟨by show 0 ≤ g.1 + 1; omega, by show g.1 + 1 ≤ 1048576; omega, hd.pl, fun b hb => hd.ok b (List.mem_filter.1 hb).1, fun b hb => hd.mem b (List.mem_filter.1 hb).1, fun b hb => by
          have := (List.mem_filter.1 hb).2
          rw [decide_eq_true_eq] at this
          show g.1 + 1 ≤ b.2.1
          omega, hd.bef.filter _⟩
end Go.Proofs.Ytdbhfpngfjlgjaa

/- Add: the code and the reference come to the same. -/
set_option linter.unusedVariables false
set_option linter.unusedSimpArgs false
namespace Go.Proofs.Ytdbhfpngfjlgjaa
open Go Go.Sk

def SameKey (x b : BatchT) : Prop := x.2.1 = b.2.1 ∧ x.1 = b.1
instance (x b : BatchT) : Decidable (SameKey x b) := inferInstanceAs (Decidable (_ ∧ _))
/-- a batch of the same player and turn, or the place between those ahead and those behind -/
theorem place (b : BatchT) : ∀ {l : List BatchT}, l.Pairwise Bef → (∃ lo x hi, l = lo ++ x :: hi ∧ (∀ y ∈ lo, Bef y b) ∧ SameKey x b ∧ ∀ y ∈ hi, Bef b y) ∨ ∃ lo hi, l = lo ++ hi ∧ (∀ y ∈ lo, Bef y b) ∧ ∀ y ∈ hi, Bef b y
  | [], _ => .inr ⟨[], [], rfl, by simp, by simp⟩
  | x :: r, h => by
    obtain ⟨h1, h2⟩ := List.pairwise_cons.1 h
    by_cases hx : Bef x b
    · rcases place b h2 with ⟨lo, y, hi, rfl, h3, h4, h5⟩ | ⟨lo, hi, rfl, h3, h4⟩
      · exact .inl ⟨x :: lo, y, hi, rfl, fun z hz => by rcases List.mem_cons.1 hz with rfl | hz; exact hx; exact h3 z hz, h4, h5⟩
      · exact .inr ⟨x :: lo, hi, rfl, fun z hz => by rcases List.mem_cons.1 hz with rfl | hz; exact hx; exact h3 z hz, h4⟩
    · by_cases hk : SameKey x b
      · refine .inl ⟨[], x, r, rfl, by simp, hk, fun y hy => ?_⟩
        have := h1 y hy
        unfold Bef SameKey at *
        omega
      · have hb : Bef b x := by unfold Bef SameKey at *; omega
        exact .inr ⟨[], x :: r, rfl, by simp, fun y hy => by rcases List.mem_cons.1 hy with rfl | hy; exact hb; exact Bef.tr _ _ _ hb (h1 y hy)⟩
def sameK (b x : BatchT) : Bool := decide (SameKey x b)
def insS (b : BatchT) (l : List BatchT) : List BatchT := l.takeWhile (fun x => beforeS x b) ++ b :: l.dropWhile fun x => beforeS x b
noncomputable def addS (g : GateT) (b : BatchT) : GateT × Int :=
  bif !gateOK g then (gate0, 1) else bif !batOK b then (gate0, 1) else bif !(decide (b.1 ∈ g.2.1)) then (gate0, 8) else bif decide (b.2.1 < g.1) then (gate0, 13) else
  match g.2.2.find? (sameK b) with
  | some x => bif decide (x = b) then (g, 0) else (gate0, 14)
  | none => ((g.1, g.2.1, insS b g.2.2), 0)
theorem find_app {α : Type} {p : α → Bool} {lo hi : List α} {x : α} (h : ∀ y ∈ lo, p y = false) (hx : p x = true) : (lo ++ x :: hi).find? p = some x := by
  induction lo with
  | nil => simp [hx]
  | cons a r ih => rw [List.cons_append, List.find?_cons, h a (by simp)]; exact ih fun y hy => h y (by simp [hy])
theorem findIdx_app {α : Type} {p : α → Bool} {lo hi : List α} {x : α} (h : ∀ y ∈ lo, p y = false) (hx : p x = true) : (lo ++ x :: hi).findIdx? p = some lo.length := by
  induction lo with
  | nil => simp [List.findIdx?_cons, hx]
  | cons a r ih =>
    rw [List.cons_append, List.findIdx?_cons, h a (by simp), ih fun y hy => h y (by simp [hy])]
    rfl
theorem bef_t {x b : BatchT} (h : Bef x b) : beforeS x b = true := (beforeS_iff _ _).2 h
theorem bef_f {x b : BatchT} (h : ¬ Bef x b) : beforeS x b = false := Bool.eq_false_iff.2 fun e => h ((beforeS_iff _ _).1 e)
theorem not_same_of_bef {x b : BatchT} (h : Bef x b) : sameK b x = false := decide_eq_false (by unfold Bef SameKey at *; omega)
theorem not_same_of_bef' {x b : BatchT} (h : Bef b x) : sameK b x = false := decide_eq_false (by unfold Bef SameKey at *; omega)
theorem ins_at {b : BatchT} {lo hi : List BatchT} (h1 : ∀ y ∈ lo, Bef y b) (h2 : ∀ y ∈ hi, Bef b y) : insS b (lo ++ hi) = lo ++ b :: hi := by
  unfold insS
  rw [List.takeWhile_append_of_pos fun y hy => bef_t (h1 y hy), List.dropWhile_append_of_pos fun y hy => bef_t (h1 y hy)]
  cases hi with
  | nil => simp
  | cons x r =>
    have := bef_f (Bef.asym (h2 x (by simp)))
    rw [List.takeWhile_cons, List.dropWhile_cons, this]
    simp
theorem index_bef (l : List BatchT) (b : BatchT) (hl : l.length ≤ lim48) : slices_IndexFunc.f l b = some (pos1 (l.findIdx? fun x => !beforeS x b)) := by
  unfold lim48 at hl
  rw [slices_IndexFunc.f_eq, find_loop l (fun i => slices_IndexFunc.j0 l b l.length i) (fun x => !beforeS x b) (fun k => (k : Int)) (some (-1)) (fun k hk => ?hF) ?hE]
  · exact found_pos _
  case hE => rw [slices_IndexFunc.j0_eq, lt_false (Nat.le_refl _), cond_false]
  case hF => rw [slices_IndexFunc.j0_eq, lt_true hk, cond_true, idx_nat, List.getElem?_eq_getElem hk, Option.bind_some, gate_Add_1.f_eq, before_eq, Option.bind_some, Option.bind_some, wr_succ hk (by omega)]
theorem add_eq (g : GateT) (b : BatchT) (hg : GatL g) (hb : BatL b) (hr : g.2.2.length + 1 ≤ lim48) : gate_Add.f g b = some (addS g b) := by
  rw [gate_Add.f_eq, gateValid_eq g hg, inputValid_eq b hb, contains_eq _ _ hg.1, gclone_eq g hg.1 hg.2.1, any_mem]
  simp only [Option.bind_some]
  unfold addS
  cases hok : gateOK g with
  | false => rfl
  | true =>
    have h := (gateOK_iff g).1 hok
    cases batOK b with
    | false => rfl
    | true =>
      cases decide (b.1 ∈ g.2.1) with
      | false => rfl
      | true =>
        cases decide (b.2.1 < g.1) with
        | true => rfl
        | false =>
          simp only [Bool.not_true, cond_false]
          rw [index_bef _ _ hg.2.1, clone_cmd _ hb.1]
          simp only [Option.bind_some]
          obtain ⟨t, ps, l⟩ := g
          have hL := hg.2.2
          have hbef := h.bef
          simp only at hr hL hbef ⊢
          clear h hok hg
          rcases place b hbef with ⟨lo, x, hi, rfl, h1, h2, h3⟩ | ⟨lo, hi, rfl, h1, h2⟩
          · have hxb : ¬ Bef x b := by unfold Bef SameKey at *; omega
            have hbx : ¬ Bef b x := by unfold Bef SameKey at *; omega
            rw [findIdx_app (fun y hy => by rw [bef_t (h1 y hy)]; rfl) (by rw [bef_f hxb]; rfl), find_app (fun y hy => not_same_of_bef (h1 y hy)) (decide_eq_true h2)]
            have hlt : lo.length < (lo ++ x :: hi).length := by simp
            have hget : (lo ++ x :: hi)[Int.toNat (pos1 (some lo.length))]? = some x := by
              show (lo ++ x :: hi)[lo.length]? = some x
              rw [List.getElem?_append_right (Nat.le_refl _), Nat.sub_self]; rfl
            rw [decide_eq_false (by show ¬ ((lo.length : Int) < 0); omega), cond_false, decide_eq_true (by show ((lo.length : Int) < _); omega), cond_true, decide_eq_true (by show (0 ≤ (lo.length : Int)); omega), Bool.true_and, cond_true, hget, Option.bind_some, before_eq, Option.bind_some, bef_f hbx]
            simp only [Bool.not_false, cond_true, Option.bind_some]
            rw [batSame_eq _ _ (hL x (by simp)), Option.bind_some]
            cases decide (x = b) <;> rfl
          · have hnone : (lo ++ hi).find? (sameK b) = none := List.find?_eq_none.2 fun y hy => by
              rcases List.mem_append.1 hy with hy | hy
              · rw [not_same_of_bef (h1 y hy)]; simp
              · rw [not_same_of_bef' (h2 y hy)]; simp
            rw [hnone, ins_at h1 h2]
            cases hi with
            | nil =>
              have hn : (lo ++ []).findIdx? (fun x => !beforeS x b) = none := List.findIdx?_eq_none_iff.2 fun y hy => by
                rw [List.append_nil] at hy
                rw [bef_t (h1 y hy)]; rfl
              rw [hn, decide_eq_true (by decide : (pos1 none : Int) < 0), cond_true, decide_eq_false (Int.lt_irrefl _), cond_false, insert_at _ _ _ (by omega) (Int.le_refl _) (by simp) (by simpa using hr), Option.bind_some]
              simp
            | cons x r =>
              have hbx := h2 x (by simp)
              rw [findIdx_app (fun y hy => by rw [bef_t (h1 y hy)]; rfl) (by rw [bef_f (Bef.asym hbx)]; rfl)]
              have hlt : lo.length < (lo ++ x :: r).length := by simp
              have hget : (lo ++ x :: r)[Int.toNat (pos1 (some lo.length))]? = some x := by
                show (lo ++ x :: r)[lo.length]? = some x
                rw [List.getElem?_append_right (Nat.le_refl _), Nat.sub_self]; rfl
              rw [decide_eq_false (by show ¬ ((lo.length : Int) < 0); omega), cond_false, decide_eq_true (by show ((lo.length : Int) < _); omega), cond_true, decide_eq_true (by show (0 ≤ (lo.length : Int)); omega), Bool.true_and, cond_true, hget, Option.bind_some, before_eq, Option.bind_some, bef_t hbx]
              simp only [Bool.not_true, cond_false]
              rw [insert_at (pos1 (some lo.length)) _ _ (by show (0 ≤ (lo.length : Int)); omega) (by show ((lo.length : Int) ≤ _); omega) (by simp) (by simpa using hr), Option.bind_some]
              have e1 : List.take (Int.toNat (pos1 (some lo.length))) (lo ++ x :: r) = lo := by show List.take lo.length _ = _; exact List.take_left
              have e2 : List.drop (Int.toNat (pos1 (some lo.length))) (lo ++ x :: r) = x :: r := by show List.drop lo.length _ = _; exact List.drop_left
              rw [e1, e2]
              simp
/-- the reference's loop, over the list itself -/
noncomputable def addL (g : GateT) (b : BatchT) : Bool → List BatchT → List BatchT → GateT × Int
  | put, acc, [] => bif !put then ((g.1, g.2.1, acc ++ [b]), 0) else ((g.1, g.2.1, acc), 0)
  | put, acc, x :: r => bif sameK b x then (bif decide (x = b) then (g, 0) else (gate0, 14)) else bif !put && beforeS b x then addL g b true (acc ++ [b] ++ [x]) r else addL g b put (acc ++ [x]) r
theorem radd_loop (g : GateT) (b : BatchT) (hg : GatL g) (hr : g.2.2.length + 1 ≤ lim48) : ∀ (m k : Nat) (put : Bool) (acc : List BatchT), k + m = g.2.2.length → acc.length ≤ k + (bif put then 1 else 0) →
    ref49_Add.j0 put k g b 0 [] [] g.1 g.2.1 acc = some (addL g b put acc (g.2.2.drop k)) := by
  have hr' := hr
  unfold lim48 at hr'
  intro m
  induction m with
  | zero =>
    intro k put acc hk ha
    rw [ref49_Add.j0_eq, lt_false (by omega), cond_false, List.drop_of_length_le (by omega)]
    have : acc.length ≤ lim48 := by unfold lim48; cases put <;> simp at ha <;> omega
    rw [room48 _ _ this]
    cases put <;> rfl
  | succ m ih =>
    intro k put acc hk ha
    have hlt : k < g.2.2.length := by omega
    have hacc : acc.length ≤ lim48 := by unfold lim48; cases put <;> simp at ha <;> omega
    rw [List.drop_eq_getElem_cons hlt, ref49_Add.j0_eq, lt_true hlt, cond_true, idx_nat, List.getElem?_eq_getElem hlt, Option.bind_some, rbatSame_eq _ _ (hg.2.2 _ (List.getElem_mem hlt)), rbefore_eq, wr_succ hlt (by omega), room48 _ _ hacc, room48 _ _ hacc]
    generalize hx : g.2.2[k] = x
    have ih0 := fun a => ih (k + 1) put (acc ++ [x]) (by omega) a
    simp only [Option.bind_some, cond_true]
    unfold addL
    have hkey : sameK b x = (decide (x.2.1 = b.2.1) && decide (x.1 = b.1)) := Bool.decide_and _ _
    rw [hkey]
    simp only [beq_dec]
    have hput : ∀ (hp : put = false), (bif decide ((List.length (acc ++ [b]) + List.length [x]) * 48 ≤ 140737488355328) then ref49_Add.j0 true ((k + 1 : Nat) : Int) g b 0 [] [] g.1 g.2.1 (acc ++ [b] ++ [x]) else none) = some (addL g b true (acc ++ [b] ++ [x]) (List.drop (k + 1) g.2.2)) := fun hp => by
      subst hp
      simp only [cond_false, Nat.add_zero] at ha
      rw [room48 (acc ++ [b]) x (by unfold lim48; simp; omega), cond_true]
      exact ih (k + 1) true _ (by omega) (by simp; omega)
    have hno : ref49_Add.j0 put ((k + 1 : Nat) : Int) g b 0 [] [] g.1 g.2.1 (acc ++ [x]) = some (addL g b put (acc ++ [x]) (List.drop (k + 1) g.2.2)) := ih0 (by rw [List.length_append]; simp; omega)
    cases decide (x.2.1 = b.2.1) <;> cases decide (x.1 = b.1) <;> cases hp : put <;> cases beforeS b x <;> cases decide (x = b) <;> simp only [cond_true, cond_false, Bool.not_true, Bool.not_false, Bool.and_true, Bool.and_false, Bool.true_and, Bool.false_and] <;> first | rfl | (exact hput hp) | (rw [hp] at hno; exact hno)
theorem addL_lo (g : GateT) (b : BatchT) : ∀ (lo acc rest : List BatchT), (∀ y ∈ lo, Bef y b) → addL g b false acc (lo ++ rest) = addL g b false (acc ++ lo) rest
  | [], acc, rest, _ => by simp
  | x :: r, acc, rest, h => by
    have hx := h x (by simp)
    rw [List.cons_append]
    conv => lhs; unfold addL
    rw [not_same_of_bef hx, cond_false, bef_f (Bef.asym hx), Bool.and_false, cond_false, addL_lo g b r _ _ fun y hy => h y (by simp [hy])]
    simp
theorem addL_hi (g : GateT) (b : BatchT) : ∀ (hi acc : List BatchT), (∀ y ∈ hi, Bef b y) → addL g b true acc hi = ((g.1, g.2.1, acc ++ hi), 0)
  | [], acc, _ => by simp [addL]
  | x :: r, acc, h => by
    unfold addL
    rw [not_same_of_bef' (h x (by simp)), cond_false, Bool.not_true, Bool.false_and, cond_false, addL_hi g b r _ fun y hy => h y (by simp [hy])]
    simp
theorem radd_eq (g : GateT) (b : BatchT) (hg : GatL g) (hb : BatL b) (hr : g.2.2.length + 1 ≤ lim48) : ref49_Add.f g b = some (addS g b) := by
  rw [ref49_Add.f_eq, refGateValid_eq g hg, refValid_eq b hb, has_eq _ _ hg.1, any_mem]
  simp only [Option.bind_some]
  unfold addS
  cases hok : gateOK g with
  | false => rfl
  | true =>
    have h := (gateOK_iff g).1 hok
    cases batOK b with
    | false => rfl
    | true =>
      cases decide (b.1 ∈ g.2.1) with
      | false => rfl
      | true =>
        cases decide (b.2.1 < g.1) with
        | true => rfl
        | false =>
          simp only [Bool.not_true, cond_false]
          refine (radd_loop g b hg hr g.2.2.length 0 false [] (by omega) (Nat.zero_le _)).trans ?_
          rw [List.drop_zero]
          congr 1
          have hbef := h.bef
          generalize hl : g.2.2 = l at hbef ⊢
          rcases place b hbef with ⟨lo, x, hi, rfl, h1, h2, h3⟩ | ⟨lo, hi, rfl, h1, h2⟩
          · rw [addL_lo g b lo [] _ h1, find_app (fun y hy => not_same_of_bef (h1 y hy)) (decide_eq_true h2)]
            unfold addL
            rw [show sameK b x = true from decide_eq_true h2, cond_true]
          · have hnone : (lo ++ hi).find? (sameK b) = none := List.find?_eq_none.2 fun y hy => by
              rcases List.mem_append.1 hy with hy | hy
              · rw [not_same_of_bef (h1 y hy)]; simp
              · rw [not_same_of_bef' (h2 y hy)]; simp
            rw [hnone, ins_at h1 h2, addL_lo g b lo [] _ h1]
            cases hi with
            | nil => simp [addL]
            | cons x r =>
              have hbx := h2 x (by simp)
              unfold addL
              rw [not_same_of_bef' hbx, cond_false, bef_t hbx, Bool.not_false, Bool.true_and, cond_true, addL_hi g b r _ fun y hy => h2 y (by simp [hy])]
              simp
theorem add_ok (g : GateT) (b : BatchT) (hz : (addS g b).2 = 0) : GOK (addS g b).1 := by
  unfold addS at hz ⊢
  cases hok : gateOK g with
  | false => rw [hok] at hz; cases hz
  | true =>
    have h := (gateOK_iff g).1 hok
    rw [hok] at hz
    cases hb : batOK b with
    | false => rw [hb] at hz; cases hz
    | true =>
      rw [hb] at hz
      by_cases hm : b.1 ∈ g.2.1
      · by_cases ht : b.2.1 < g.1
        · rw [decide_eq_true hm, decide_eq_true ht] at hz; cases hz
        · rw [decide_eq_true hm, decide_eq_false ht] at hz ⊢
          simp only [Bool.not_true, cond_false] at hz ⊢
          have hbef := h.bef
          have hmem := h.mem
          have htu := h.tu
          have hbok := h.ok
          rcases place b hbef with ⟨lo, x, hi, hl, h1, h2, h3⟩ | ⟨lo, hi, hl, h1, h2⟩
          · rw [hl, find_app (fun y hy => not_same_of_bef (h1 y hy)) (decide_eq_true h2)] at hz ⊢
            cases hd : decide (x = b) with
            | false => simp only [hd] at hz; cases hz
            | true =>
              show GOK (bif decide (x = b) then (g, (0 : Int)) else (gate0, 14)).1
              rw [hd]
              exact h
          · have hnone : (lo ++ hi).find? (sameK b) = none := List.find?_eq_none.2 fun y hy => by
              rcases List.mem_append.1 hy with hy | hy
              · rw [not_same_of_bef (h1 y hy)]; simp
              · rw [not_same_of_bef' (h2 y hy)]; simp
            rw [hl, hnone, ins_at h1 h2]
            rw [hl] at hmem htu hbok hbef
            have hall : ∀ y, y ∈ lo ++ b :: hi → y = b ∨ y ∈ lo ++ hi := fun y hy => by
              simp only [List.mem_append, List.mem_cons] at hy ⊢
              rcases hy with h | h | h
              · exact .inr (.inl h)
              · exact .inl h
              · exact .inr (.inr h)
            refine ⟨h.t0, h.t1, h.pl, fun y hy => ?_, fun y hy => ?_, fun y hy => ?_, ?_⟩
            · rcases hall y hy with rfl | hy
              · exact hb
              · exact hbok y hy
            · rcases hall y hy with rfl | hy
              · exact hm
              · exact hmem y hy
            · rcases hall y hy with rfl | hy
              · show g.1 ≤ y.2.1; omega
              · exact htu y hy
            · obtain ⟨p1, p2, p3⟩ := List.pairwise_append.1 hbef
              exact List.pairwise_append.2 ⟨p1, List.pairwise_cons.2 ⟨h2, p2⟩, fun x hx y hy => by
                rcases List.mem_cons.1 hy with rfl | hy
                · exact h1 x hx
                · exact p3 x hx y hy⟩
      · rw [decide_eq_false hm] at hz; cases hz
end Go.Proofs.Ytdbhfpngfjlgjaa

/- The fixed example, and the statements on New, Add, Open, Missing, Leave and Take. -/
set_option linter.unusedVariables false
set_option linter.unusedSimpArgs false
namespace Go.Proofs.Ytdbhfpngfjlgjaa
open Go Go.Sk

/-! ### the fixed example -/
abbrev cR : CmdT := (2, 12, [], (0, 0), 0, 0, { data := #[] }, false)
abbrev bA : BatchT := (2, 5, 0, [cR])
abbrev bB : BatchT := (1, 5, 0, [])
theorem smallL {c : CmdT} (h1 : c.2.2.1.length ≤ 1000) (h2 : c.2.2.2.2.2.2.1.size ≤ 1000) : CmdL c := ⟨by unfold lim48; omega, by unfold lim48; omega⟩
theorem cR_L : CmdL cR := smallL (by decide) (by decide)
theorem err_cR : errOf cR = 0 := by
  have hv : ref02_Valid.f cR.2.2.2.1 = some true := by
    rw [ref02_Valid.f_eq, ref02_NearVec.f_eq, ref02_Near.f_eq]
    rfl
  have e : ref34_Valid.f cR = some 0 := by
    rw [ref34_Valid.f_eq, bare_eq]
    have hb : bareS cR = true := by decide
    rw [hb]
    show ref34_Valid.j0 false cR = some 0
    rw [ref34_Valid.j0_eq]
    show ref34_Valid.j1 4 cR = some 0
    rw [rj1 cR cR_L.2 hv cR_L.1]
    rfl
  unfold errOf
  rw [e]
  rfl
theorem ok_bA : batOK bA = true := by
  unfold batOK badCmd
  simp [err_cR]
theorem ok_empty {p t : Int} (h1 : 1 ≤ p ∧ p ≤ 6) (h2 : 0 ≤ t ∧ t ≤ 1048584) : batOK (p, t, 0, []) = true := by
  unfold batOK
  simp
  omega
theorem L_empty (p t : Int) : BatL (p, t, 0, []) := ⟨Nat.zero_le _, fun c hc => by simp at hc⟩
theorem L_bA : BatL bA := ⟨by unfold lim48; decide, fun c hc => by simp at hc; subst hc; exact cR_L⟩
theorem pl12 : PlOK [1, 2] := ⟨by decide, by decide⟩
theorem ok0 : GOK (5, [1, 2], []) := ⟨by decide, by decide, pl12, by simp, by simp, by simp, List.Pairwise.nil⟩
theorem ok1 : GOK (5, [1, 2], [bA]) := ⟨by decide, by decide, pl12, by simp [ok_bA], by simp, by simp, List.pairwise_singleton _ _⟩
theorem ok2 : GOK (5, [1, 2], [bB, bA]) := ⟨by decide, by decide, pl12, by
  intro b hb
  simp at hb
  rcases hb with rfl | rfl
  · exact ok_empty (by decide) (by decide)
  · exact ok_bA, by simp, by simp, List.pairwise_cons.2 ⟨by simp [Bef], List.pairwise_singleton _ _⟩⟩
theorem gL {g : GateT} (h1 : g.2.1.length ≤ 100) (h2 : g.2.2.length ≤ 100) (h3 : ∀ b ∈ g.2.2, BatL b) : GatL g := ⟨by unfold lim48; omega, by unfold lim48; omega, h3⟩
theorem L0 : GatL (5, [1, 2], []) := gL (by decide) (by decide) (by simp)
theorem L1 : GatL (5, [1, 2], [bA]) := gL (by decide) (by decide) (by simp [L_bA])
theorem L2 : GatL (5, [1, 2], [bB, bA]) := gL (by decide) (by decide) (by
  intro b hb
  simp at hb
  rcases hb with rfl | rfl
  · exact L_empty _ _
  · exact L_bA)
theorem g0 : gateOK (5, [1, 2], []) = true := (gateOK_iff _).2 ok0
theorem g1 : gateOK (5, [1, 2], [bA]) = true := (gateOK_iff _).2 ok1
theorem g2 : gateOK (5, [1, 2], [bB, bA]) = true := (gateOK_iff _).2 ok2
theorem ex_new : gate_New.f 5 [1, 2] = some ((5, [1, 2], []), 0) := by
  rw [new_eq _ _ (by unfold lim48; decide)]
  unfold newS
  rw [g0]; rfl
theorem ex_miss : gate_Missing.f (5, [1, 2], []) = some [1, 2] := by
  rw [missing_eq _ L0]
  unfold missingS
  rw [g0]; rfl
theorem ex_open : gate_Open.f (5, [1, 2], []) = some false := by
  rw [open_eq _ L0]
  unfold openS missingS
  rw [g0]; rfl
theorem ex_add1 : gate_Add.f (5, [1, 2], []) bA = some ((5, [1, 2], [bA]), 0) := by
  rw [add_eq _ _ L0 L_bA (by unfold lim48; decide)]
  unfold addS
  rw [g0, ok_bA]; rfl
theorem ex_add2 : gate_Add.f (5, [1, 2], [bA]) bB = some ((5, [1, 2], [bB, bA]), 0) := by
  rw [add_eq _ _ L1 (L_empty _ _) (by unfold lim48; decide)]
  unfold addS
  rw [g1, ok_empty (by decide) (by decide)]; rfl
theorem ex_add3 : gate_Add.f (5, [1, 2], [bB, bA]) (1, 4, 0, []) = some (gate0, 13) := by
  rw [add_eq _ _ L2 (L_empty _ _) (by unfold lim48; decide)]
  unfold addS
  rw [g2, ok_empty (by decide) (by decide)]; rfl
theorem ex_add4 : gate_Add.f (5, [1, 2], [bB, bA]) (2, 5, 0, []) = some (gate0, 14) := by
  rw [add_eq _ _ L2 (L_empty _ _) (by unfold lim48; decide)]
  unfold addS
  rw [g2, ok_empty (by decide) (by decide)]; rfl
theorem ex_open2 : gate_Open.f (5, [1, 2], [bB, bA]) = some true := by
  rw [open_eq _ L2]
  unfold openS missingS
  rw [g2]; rfl
theorem ex_take : gate_Take.f (5, [1, 2], [bB, bA]) = some ((6, [1], []), [cR], 0) := by
  rw [take_eq _ L2]
  have ho : openS (5, [1, 2], [bB, bA]) = true := by
    unfold openS missingS
    rw [g2]; rfl
  unfold takeS
  rw [g2, ho]; rfl
theorem ex_leave : gate_Leave.f (5, [1, 2], [bB, bA]) 1 = some (5, [2], [bA]) := by
  rw [leave_eq _ _ L2, leave_ok _ ok2]; rfl
theorem ex_valid : gate_Valid.f (5, [1, 2], [bB, bA]) = some true := by rw [gateValid_eq _ L2, g2]
theorem alive_eq : law49_alive.f = some true := by
  rw [law49_alive.f_eq, ex_new, Option.bind_some]
  simp only [ex_open, ex_miss, Option.bind_some, ex_add1, ex_add2, ex_add3, ex_add4, ex_take, ex_open2, ex_valid, ex_leave]
  rfl

/-! ### small ones -/
theorem small_len (b : BatchT) (hl : b.2.2.2.length ≤ 9223372036854775807) : ∃ r, law49_small.f b = some r ∧ (r = true → BatL b) := by
  rw [law49_small.f_eq, any_loop b.2.2.2 (fun i => law49_small.j0 b.2.2.2.length i b) (fun c => decide ((c.2.2.1.length : Int) > 100) || decide ((c.2.2.2.2.2.2.1.size : Int) > 100)) false (some (decide ((b.2.2.2.length : Int) ≤ 40))) (fun k hk => ?hF) ?hE]
  · cases h : b.2.2.2.any fun c => decide ((c.2.2.1.length : Int) > 100) || decide ((c.2.2.2.2.2.2.1.size : Int) > 100) with
    | true => exact ⟨_, rfl, fun h => by cases h⟩
    | false =>
      refine ⟨_, rfl, fun h40 => ?_⟩
      rw [decide_eq_true_eq] at h40
      refine ⟨by unfold lim48; omega, fun c hc => ?_⟩
      have := List.any_eq_false.1 h c hc
      simp only [Bool.or_eq_true, decide_eq_true_eq, not_or] at this
      exact ⟨by unfold lim48; omega, by unfold lim48; omega⟩
  case hE => rw [law49_small.j0_eq, lt_false (Nat.le_refl _), cond_false]
  case hF =>
    rw [law49_small.j0_eq, lt_true hk, cond_true, idx_nat, List.getElem?_eq_getElem hk, Option.bind_some, Option.bind_some, wr_succ hk hl]
    cases decide ((b.2.2.2[k].2.2.1.length : Int) > 100) <;> rfl
theorem few_len (g : GateT) (hl : g.2.2.length ≤ 9223372036854775807) (hb : ∀ b ∈ g.2.2, b.2.2.2.length ≤ 9223372036854775807) : ∃ r, law49_few.f g = some r ∧ (r = true → GatL g ∧ g.2.2.length ≤ 60 ∧ g.2.1.length ≤ 20) := by
  have key : ∀ (m k : Nat), k + m = g.2.2.length → ∃ r, law49_few.j0 g.2.2.length k g = some r ∧ (r = true → (∀ b ∈ g.2.2.drop k, BatL b) ∧ g.2.2.length ≤ 60 ∧ g.2.1.length ≤ 20) := by
    intro m
    induction m with
    | zero =>
      intro k hk
      rw [law49_few.j0_eq, lt_false (by omega), cond_false, c1]
      refine ⟨_, rfl, fun h => ?_⟩
      rw [Bool.and_eq_true, decide_eq_true_eq, decide_eq_true_eq] at h
      refine ⟨fun b hb => ?_, by omega, by omega⟩
      rw [List.drop_of_length_le (by omega)] at hb
      simp at hb
    | succ m ih =>
      intro k hk
      have hlt : k < g.2.2.length := by omega
      obtain ⟨r, h1, h2⟩ := ih (k + 1) (by omega)
      obtain ⟨s, h3, h4⟩ := small_len g.2.2[k] (hb _ (List.getElem_mem hlt))
      rw [law49_few.j0_eq, lt_true hlt, cond_true, idx_nat, List.getElem?_eq_getElem hlt, Option.bind_some, h3, Option.bind_some, wr_succ hlt hl, h1]
      cases s with
      | false => exact ⟨_, rfl, fun h => by cases h⟩
      | true =>
        refine ⟨r, rfl, fun h => ⟨fun b hb => ?_, (h2 h).2⟩⟩
        rw [List.drop_eq_getElem_cons hlt] at hb
        rcases List.mem_cons.1 hb with rfl | hb
        · exact h4 rfl
        · exact (h2 h).1 b hb
  obtain ⟨r, h1, h2⟩ := key g.2.2.length 0 (by omega)
  refine ⟨r, by rw [law49_few.f_eq]; exact h1, fun h => ?_⟩
  obtain ⟨h3, h4, h5⟩ := h2 h
  exact ⟨⟨by unfold lim48; omega, by unfold lim48; omega, h3⟩, h4, h5⟩
/-- what the arguments' form alone says of a gate -/
theorem fits_gate {g : GateT} (h : Fits cGate g) : g.2.2.length ≤ 9223372036854775807 ∧ ∀ b ∈ g.2.2, b.2.2.2.length ≤ 9223372036854775807 := by
  obtain ⟨_, _, h1, h2⟩ := h
  exact ⟨h1, fun b hb => (h2 b hb).2.2.2.1⟩

/-! ### the statements -/
theorem news (g : GateT) (turn : Int) (ps : List Int) (hg : Fits cGate g) : law49_GateNews.f g turn ps = some true := by
  obtain ⟨r, h1, h2⟩ := few_len g (fits_gate hg).1 (fits_gate hg).2
  rw [law49_GateNews.f_eq, h1, Option.bind_some, alive_eq]
  cases r with
  | false => rfl
  | true =>
    obtain ⟨hL, _⟩ := h2 rfl
    by_cases hp : ((ps.length : Nat) : Int) > 100
    · rw [decide_eq_true hp]; rfl
    · have hp' : ps.length ≤ lim48 := by unfold lim48; omega
      have hn : GatL (newS turn ps).1 := by
        unfold newS
        cases gateOK (turn, ps, [])
        · exact GatL.nil 0 (Nat.zero_le _)
        · exact GatL.nil turn hp'
      rw [decide_eq_false hp, new_eq _ _ hp', rnew_eq _ _ hp', gateValid_eq g hL, refGateValid_eq g hL]
      simp only [Bool.not_true, cond_false, Option.bind_some]
      rw [gatSame_eq _ _ hn, decide_eq_true rfl, Option.bind_some, cond_true, beq_self_eq_true, cond_true, beq_self_eq_true, cond_true]
theorem adds (g : GateT) (b : BatchT) (hg : Fits cGate g) (hb : Fits cBatch b) : law49_GateAdds.f g b = some true := by
  obtain ⟨r, h1, h2⟩ := few_len g (fits_gate hg).1 (fits_gate hg).2
  obtain ⟨s, h3, h4⟩ := small_len b hb.2.2.2.1
  rw [law49_GateAdds.f_eq, h1, Option.bind_some, alive_eq, h3]
  cases r with
  | false => rfl
  | true =>
    cases s with
    | false => rfl
    | true =>
      obtain ⟨hL, h60, _⟩ := h2 rfl
      have hB := h4 rfl
      have hr : g.2.2.length + 1 ≤ lim48 := by unfold lim48; omega
      rw [add_eq g b hL hB hr, radd_eq g b hL hB hr]
      simp only [Bool.not_true, cond_false, Option.bind_some]
      have hA : GatL (addS g b).1 := by
        unfold addS
        cases gateOK g
        · exact GatL.nil 0 (Nat.zero_le _)
        cases batOK b
        · exact GatL.nil 0 (Nat.zero_le _)
        cases decide (b.1 ∈ g.2.1)
        · exact GatL.nil 0 (Nat.zero_le _)
        cases decide (b.2.1 < g.1)
        · simp only [Bool.not_true, cond_false]
          cases hf : g.2.2.find? (sameK b) with
          | none =>
            have hmem : ∀ y ∈ insS b g.2.2, y = b ∨ y ∈ g.2.2 := fun y hy => by
              unfold insS at hy
              rcases List.mem_append.1 hy with hy | hy
              · exact .inr ((List.takeWhile_sublist _).subset hy)
              · rcases List.mem_cons.1 hy with rfl | hy
                · exact .inl rfl
                · exact .inr ((List.dropWhile_sublist _).subset hy)
            have hlen : (insS b g.2.2).length = g.2.2.length + 1 := by
              unfold insS
              have := congrArg List.length (List.takeWhile_append_dropWhile (p := fun x => beforeS x b) (l := g.2.2))
              rw [List.length_append] at this
              rw [List.length_append, List.length_cons]
              omega
            exact ⟨hL.1, by show (insS b g.2.2).length ≤ _; omega, fun y hy => by
              rcases hmem y hy with rfl | hy
              · exact hB
              · exact hL.2.2 y hy⟩
          | some x =>
            show GatL (bif decide (x = b) then (g, (0 : Int)) else (gate0, 14)).1
            cases decide (x = b)
            · exact GatL.nil 0 (Nat.zero_le _)
            · exact hL
        · exact GatL.nil 0 (Nat.zero_le _)
      rw [gatSame_eq _ _ hA, decide_eq_true rfl, Option.bind_some, cond_true, beq_self_eq_true, cond_true]
      by_cases hz : (addS g b).2 = 0
      · rw [show ((addS g b).2 != 0) = false by rw [hz]; rfl, cond_false, gateValid_eq _ hA, (gateOK_iff _).2 (add_ok g b hz)]
        rfl
      · rw [bne_iff_ne.2 hz]; rfl
theorem beq_t (b : Bool) : (b == b) = true := by cases b <;> rfl
theorem opens (g : GateT) (p : Int) (hg : Fits cGate g) : law49_GateOpens.f g p = some true := by
  obtain ⟨r, h1, h2⟩ := few_len g (fits_gate hg).1 (fits_gate hg).2
  rw [law49_GateOpens.f_eq, h1, Option.bind_some, alive_eq]
  cases r with
  | false => rfl
  | true =>
    obtain ⟨hL, _⟩ := h2 rfl
    have hm : (missingS g).length ≤ lim48 := by
      unfold missingS missS
      cases gateOK g
      · exact Nat.zero_le _
      · exact Nat.le_trans (List.length_filter_le _ _) hL.1
    have hlv : GatL (leaveS g p) := by
      unfold leaveS
      cases gateOK g
      · exact hL
      · exact withoutL p hL
    rw [missing_eq g hL, rmissing_eq g hL, open_eq g hL, ropen_eq g hL, leave_eq g p hL, rleave_eq g p hL, gateValid_eq g hL]
    simp only [Bool.not_true, cond_false, Option.bind_some, beq_t]
    rw [samePlayers_eq _ _ hm, decide_eq_true rfl, gatSame_eq _ _ hlv, decide_eq_true rfl]
    simp only [Option.bind_some, Bool.not_true, cond_false]
    cases hok : gateOK g with
    | false => rfl
    | true =>
      simp only [Bool.not_true, cond_false, isEmpty_len]
      cases hp : g.2.1 with
      | nil => rfl
      | cons a q =>
        have : openS g = (missingS g).isEmpty := by
          unfold openS
          rw [hok, hp]
          simp
        rw [this, beq_t]
        rfl
theorem take_cmds {g : GateT} (hL : GatL g) : (takeS g).2.1.length ≤ lim48 ∧ ∀ c ∈ (takeS g).2.1, CmdL c := by
  unfold takeS
  cases hok : gateOK g
  · exact ⟨Nat.zero_le _, fun c hc => by simp at hc⟩
  cases openS g
  · exact ⟨Nat.zero_le _, fun c hc => by simp at hc⟩
  cases g.1 == 1048576
  · have h := (gateOK_iff g).1 hok
    have h16 : ∀ b ∈ curS g, b.2.2.2.length ≤ 16 := fun b hb => by
      have := h.ok b (List.mem_filter.1 hb).1
      unfold batOK at this
      simp only [Bool.and_eq_true, Bool.not_eq_true', decide_eq_false_iff_not] at this
      omega
    constructor
    · show (cmdsS (curS g)).length ≤ lim48
      have key : ∀ l : List BatchT, (∀ b ∈ l, b.2.2.2.length ≤ 16) → (cmdsS l).length ≤ l.length * 16 := by
        intro l
        induction l with
        | nil => intro _; simp [cmdsS]
        | cons b r ih =>
          intro h
          have h1 := ih fun x hx => h x (by simp [hx])
          have h2 := h b (by simp)
          unfold cmdsS at h1 ⊢
          rw [List.flatMap_cons, List.length_append, List.length_cons]
          omega
      have := key _ h16
      have := (cur_asc h).2
      unfold lim48
      omega
    · intro c hc
      obtain ⟨b, hb, hc⟩ := List.mem_flatMap.1 hc
      exact (cur_L hL b hb).2 c hc
  · exact ⟨Nat.zero_le _, fun c hc => by simp at hc⟩
theorem takes (g : GateT) (hg : Fits cGate g) : law49_GateTakes.f g = some true := by
  obtain ⟨r, h1, h2⟩ := few_len g (fits_gate hg).1 (fits_gate hg).2
  rw [law49_GateTakes.f_eq, h1, Option.bind_some, alive_eq]
  cases r with
  | false => rfl
  | true =>
    obtain ⟨hL, h60, _⟩ := h2 rfl
    have hT : GatL (takeS g).1 := by
      unfold takeS
      cases gateOK g
      · exact GatL.nil 0 (Nat.zero_le _)
      cases openS g
      · exact GatL.nil 0 (Nat.zero_le _)
      cases g.1 == 1048576
      · exact dropL _ ⟨hL.1, Nat.le_trans (List.length_filter_le _ _) hL.2.1, fun b hb => hL.2.2 b (List.mem_filter.1 hb).1⟩
      · exact GatL.nil 0 (Nat.zero_le _)
    have hC := take_cmds hL
    rw [take_eq g hL, rtake_eq g hL]
    simp only [Bool.not_true, cond_false, Option.bind_some]
    rw [gatSame_eq _ _ hT, decide_eq_true rfl, Option.bind_some, cond_true, sameCmds_eq _ _ hC.1 hC.2, decide_eq_true rfl, Option.bind_some, cond_true, beq_self_eq_true, cond_true]
    by_cases hz : (takeS g).2.2 = 0
    · rw [show ((takeS g).2.2 != 0) = false by rw [hz]; rfl, cond_false, gateValid_eq _ hT, (gateOK_iff _).2 (take_ok g hz).2.2.2]
      rfl
    · rw [bne_iff_ne.2 hz]; rfl
end Go.Proofs.Ytdbhfpngfjlgjaa

/- Gates with the same batches are equal, in whatever order these arrived. -/
set_option linter.unusedVariables false
set_option linter.unusedSimpArgs false
namespace Go.Proofs.Ytdbhfpngfjlgjaa
open Go Go.Sk

/-- a gate behind an addition, if that succeeds -/
noncomputable def addAll (g : GateT) (b : BatchT) : GateT := bif (addS g b).2 == 0 then (addS g b).1 else g
theorem ins_mem {b : BatchT} {l : List BatchT} {y : BatchT} : y ∈ insS b l ↔ y = b ∨ y ∈ l := by
  have e : l.takeWhile (fun x => beforeS x b) ++ l.dropWhile (fun x => beforeS x b) = l := List.takeWhile_append_dropWhile
  unfold insS
  conv => rhs; rw [← e]
  simp only [List.mem_append, List.mem_cons]
  constructor
  · rintro (h | h | h)
    · exact .inr (.inl h)
    · exact .inl h
    · exact .inr (.inr h)
  · rintro (h | h | h)
    · exact .inr (.inl h)
    · exact .inl h
    · exact .inr (.inr h)
theorem ins_len (b : BatchT) (l : List BatchT) : (insS b l).length = l.length + 1 := by
  unfold insS
  have := congrArg List.length (List.takeWhile_append_dropWhile (p := fun x => beforeS x b) (l := l))
  rw [List.length_append] at this
  rw [List.length_append, List.length_cons]
  omega
/-- what an addition comes to, in three ways -/
theorem add_ways (g : GateT) (b : BatchT) : addAll g b = g ∨ (gateOK g = true ∧ batOK b = true ∧ b.1 ∈ g.2.1 ∧ ¬ b.2.1 < g.1 ∧ g.2.2.find? (sameK b) = none ∧ addAll g b = (g.1, g.2.1, insS b g.2.2)) := by
  unfold addAll addS
  cases gateOK g
  · exact .inl rfl
  cases batOK b
  · exact .inl rfl
  by_cases hm : b.1 ∈ g.2.1
  · by_cases ht : b.2.1 < g.1
    · rw [decide_eq_true hm, decide_eq_true ht]; exact .inl rfl
    · rw [decide_eq_true hm, decide_eq_false ht]
      simp only [Bool.not_true, cond_false]
      cases hf : g.2.2.find? (sameK b) with
      | none => exact .inr ⟨by simp, by simp, hm, ht, by simp, rfl⟩
      | some x =>
        left
        show (bif (bif decide (x = b) then (g, (0 : Int)) else (gate0, 14)).2 == 0 then (bif decide (x = b) then (g, (0 : Int)) else (gate0, 14)).1 else g) = g
        cases decide (x = b) <;> rfl
  · rw [decide_eq_false hm]; exact .inl rfl
theorem addAll_L {g : GateT} {b : BatchT} (hg : GatL g) (hb : BatL b) (hr : g.2.2.length + 1 ≤ lim48) : GatL (addAll g b) ∧ (addAll g b).2.2.length ≤ g.2.2.length + 1 := by
  rcases add_ways g b with h | ⟨_, _, _, _, _, h⟩ <;> rw [h]
  · exact ⟨hg, by omega⟩
  · exact ⟨⟨hg.1, by show (insS b g.2.2).length ≤ _; rw [ins_len]; exact hr, fun y hy => by
      rcases ins_mem.1 hy with rfl | hy
      · exact hb
      · exact hg.2.2 y hy⟩, by show (insS b g.2.2).length ≤ _; rw [ins_len]; omega⟩
/-- a batch that can be added -/
def Good (g : GateT) (b : BatchT) : Prop := batOK b = true ∧ b.1 ∈ g.2.1 ∧ ¬ b.2.1 < g.1
/-- a gate between the start and what is left to be added -/
structure Mid (start : GateT) (left : List BatchT) (g : GateT) : Prop where
  ok : GOK g
  t : g.1 = start.1
  ps : g.2.1 = start.2.1
  of : ∀ y ∈ g.2.2, y ∈ start.2.2 ∨ y ∈ left ∧ Good start y
  st : ∀ y ∈ start.2.2, y ∈ g.2.2
theorem Mid.add {start : GateT} {left : List BatchT} (h1 : ∀ x ∈ left, ∀ s ∈ start.2.2, ¬ SameKey s x) (h2 : ∀ x ∈ left, ∀ y ∈ left, SameKey y x → y = x) {g : GateT} (h : Mid start left g) {x : BatchT} (hx : x ∈ left) :
    Mid start left (addAll g x) ∧ (Good start x → x ∈ (addAll g x).2.2) ∧ ∀ y ∈ g.2.2, y ∈ (addAll g x).2.2 := by
  have hgood : Good start x ↔ Good g x := by unfold Good; rw [h.t, h.ps]
  rcases add_ways g x with e | ⟨_, hb, hm, ht, hf, e⟩
  · rw [e]
    refine ⟨h, fun hG => ?_, fun y hy => hy⟩
    have hG' := hgood.1 hG
    cases hf : g.2.2.find? (sameK x) with
    | some y =>
      have hy := List.mem_of_find?_eq_some hf
      have hk : SameKey y x := of_decide_eq_true (show sameK x y = true from List.find?_some hf)
      rcases h.of y hy with hs | ⟨hl, _⟩
      · exact absurd hk (h1 x hx y hs)
      · rw [← h2 x hx y hl hk]; exact hy
    | none =>
      exfalso
      unfold addAll addS at e
      rw [(gateOK_iff g).2 h.ok, hG'.1, decide_eq_true hG'.2.1, decide_eq_false hG'.2.2] at e
      simp only [Bool.not_true, cond_false, hf] at e
      have := congrArg (fun g => g.2.2.length) e
      have h9 : (insS x g.2.2).length = g.2.2.length := this
      rw [ins_len] at h9
      omega
  · have hok : GOK (addAll g x) := by
      have hz : (addS g x).2 = 0 := by
        unfold addS
        rw [(gateOK_iff g).2 h.ok, hb, decide_eq_true hm, decide_eq_false ht]
        simp only [Bool.not_true, cond_false, hf]
      have := add_ok g x hz
      unfold addAll
      rw [hz]
      exact this
    rw [e] at hok ⊢
    refine ⟨⟨hok, h.t, h.ps, fun y hy => ?_, fun y hy => ins_mem.2 (.inr (h.st y hy))⟩, fun _ => ins_mem.2 (.inl rfl), fun y hy => ins_mem.2 (.inr hy)⟩
    rcases ins_mem.1 hy with rfl | hy
    · exact .inr ⟨hx, hgood.2 ⟨hb, hm, ht⟩⟩
    · exact h.of y hy
theorem bef_ext : ∀ (l r : List BatchT), l.Pairwise Bef → r.Pairwise Bef → (∀ x, x ∈ l ↔ x ∈ r) → l = r
  | [], [], _, _, _ => rfl
  | [], b :: r, _, _, h => by have := (h b).2 (by simp); simp at this
  | a :: l, [], _, _, h => by have := (h a).1 (by simp); simp at this
  | a :: l, b :: r, h1, h2, h => by
    obtain ⟨a1, a2⟩ := List.pairwise_cons.1 h1
    obtain ⟨b1, b2⟩ := List.pairwise_cons.1 h2
    have hab : a = b := by
      have ha := (h a).1 (by simp)
      have hb := (h b).2 (by simp)
      rcases List.mem_cons.1 ha with e | ha
      · exact e
      · rcases List.mem_cons.1 hb with e | hb
        · exact e.symm
        · exact absurd (b1 a ha) (Bef.asym (a1 b hb))
    subst hab
    rw [bef_ext l r a2 b2 fun x => ?_]
    have hx := h x
    simp only [List.mem_cons] at hx
    constructor
    · intro hxl
      rcases hx.1 (.inr hxl) with e | h
      · exact absurd (a1 x hxl) (by rw [e]; exact Bef.irr a)
      · exact h
    · intro hxr
      rcases hx.2 (.inr hxr) with e | h
      · exact absurd (b1 x hxr) (by rw [e]; exact Bef.irr a)
      · exact h
theorem Mid.fold {start : GateT} {left : List BatchT} (h1 : ∀ x ∈ left, ∀ s ∈ start.2.2, ¬ SameKey s x) (h2 : ∀ x ∈ left, ∀ y ∈ left, SameKey y x → y = x) : ∀ (xs : List BatchT), (∀ x ∈ xs, x ∈ left) → ∀ {g : GateT}, Mid start left g →
    Mid start left (xs.foldl addAll g) ∧ (∀ x ∈ xs, Good start x → x ∈ (xs.foldl addAll g).2.2) ∧ ∀ y ∈ g.2.2, y ∈ (xs.foldl addAll g).2.2
  | [], _, g, h => ⟨h, fun x hx => by simp at hx, fun y hy => hy⟩
  | x :: r, hs, g, h => by
    obtain ⟨m1, m2, m3⟩ := h.add h1 h2 (hs x (by simp))
    obtain ⟨k1, k2, k3⟩ := Mid.fold h1 h2 r (fun y hy => hs y (by simp [hy])) m1
    refine ⟨k1, fun y hy hG => ?_, fun y hy => k3 y (m3 y hy)⟩
    rcases List.mem_cons.1 hy with rfl | hy
    · exact k3 _ (m2 hG)
    · exact k2 y hy hG
theorem Mid.same {start : GateT} {left : List BatchT} {a b : GateT} (ha : Mid start left a) (hb : Mid start left b) (ca : ∀ x ∈ left, Good start x → x ∈ a.2.2) (cb : ∀ x ∈ left, Good start x → x ∈ b.2.2) : a = b := by
  have e : a.2.2 = b.2.2 := bef_ext _ _ ha.ok.bef hb.ok.bef fun x => by
    constructor
    · intro hx
      rcases ha.of x hx with h | ⟨h, g⟩
      · exact hb.st x h
      · exact cb x h g
    · intro hx
      rcases hb.of x hx with h | ⟨h, g⟩
      · exact ha.st x h
      · exact ca x h g
  obtain ⟨t, p, l⟩ := a
  obtain ⟨t', p', l'⟩ := b
  have h1 := ha.t.trans hb.t.symm
  have h2 := ha.ps.trans hb.ps.symm
  simp only at e h1 h2
  rw [e, h1, h2]

/-! ### what is left: no batch that contradicts an earlier one -/
def clash1 (start : GateT) (x : BatchT) : Bool := start.2.2.any fun s => s.2.1 == x.2.1 && s.1 == x.1
def clash2 (left : List BatchT) (x : BatchT) : Bool := left.any fun y => y.2.1 == x.2.1 && (y.1 == x.1 && !decide (y = x))
def leftS (start : GateT) (l : List BatchT) : List BatchT := l.foldl (fun acc x => bif clash1 start x || clash2 acc x then acc else acc ++ [x]) []
structure LeftOK (start : GateT) (l acc : List BatchT) : Prop where
  sub : ∀ x ∈ acc, x ∈ l
  no : ∀ x ∈ acc, ∀ s ∈ start.2.2, ¬ SameKey s x
  one : ∀ x ∈ acc, ∀ y ∈ acc, SameKey y x → y = x
theorem left_step {start : GateT} {l acc : List BatchT} (h : LeftOK start l acc) {x : BatchT} (hx : x ∈ l) : LeftOK start l (bif clash1 start x || clash2 acc x then acc else acc ++ [x]) := by
  cases hc : clash1 start x || clash2 acc x with
  | true => exact h
  | false =>
    rw [Bool.or_eq_false_iff] at hc
    obtain ⟨c1, c2⟩ := hc
    have n1 : ∀ s ∈ start.2.2, ¬ SameKey s x := fun s hs hk => by
      have := List.any_eq_false.1 c1 s hs
      apply this
      rw [hk.1, hk.2]; simp
    have n2 : ∀ y ∈ acc, SameKey y x → y = x := fun y hy hk => by
      have := List.any_eq_false.1 c2 y hy
      by_cases he : y = x
      · exact he
      · exfalso
        apply this
        rw [decide_eq_false he, hk.1, hk.2]; simp
    show LeftOK start l (acc ++ [x])
    refine ⟨fun y hy => ?_, fun y hy s hs => ?_, fun y hy z hz hk => ?_⟩
    · rcases List.mem_append.1 hy with hy | hy
      · exact h.sub y hy
      · rw [List.mem_singleton] at hy; rw [hy]; exact hx
    · rcases List.mem_append.1 hy with hy | hy
      · exact h.no y hy s hs
      · rw [List.mem_singleton] at hy; rw [hy]; exact n1 s hs
    · rcases List.mem_append.1 hy with hy1 | hy1 <;> rcases List.mem_append.1 hz with hz1 | hz1
      · exact h.one y hy1 z hz1 hk
      · rw [List.mem_singleton] at hz1
        rw [hz1] at hk ⊢
        exact (n2 y hy1 ⟨hk.1.symm, hk.2.symm⟩).symm
      · rw [List.mem_singleton] at hy1
        rw [hy1] at hk ⊢
        exact n2 z hz1 hk
      · rw [List.mem_singleton] at hy1 hz1
        rw [hy1, hz1]
end Go.Proofs.Ytdbhfpngfjlgjaa

/- The statement GateAgrees. -/
set_option linter.unusedVariables false
set_option linter.unusedSimpArgs false
namespace Go.Proofs.Ytdbhfpngfjlgjaa
open Go Go.Sk

theorem add_one {g : GateT} {x : BatchT} (hg : GatL g) (hx : BatL x) (hr : g.2.2.length + 1 ≤ lim48) {γ : Type} (F : GateT → Option γ) :
    ((gate_Add.f g x).bind fun r => bif r.2 == 0 then F r.1 else F g) = F (addAll g x) := by
  rw [add_eq g x hg hx hr, Option.bind_some]
  unfold addAll
  cases (addS g x).2 == 0 <;> rfl
/-- the loops that look for a batch that contradicts -/
theorem agr_j1 (l : List BatchT) (order : List Int) (i : Nat) (hi : i < l.length) (t45 t46 : Int) (start : GateT) (acc : List BatchT) (hs : start.2.2.length ≤ 60) :
    law49_GateAgrees.j1 l order i false t45 t46 start.2.2.length 0 start acc = law49_GateAgrees.j3 l order i (clash1 start l[i]) t45 t46 acc.length 0 start acc := by
  have hidx : idx l (i : Int) = some l[i] := by rw [idx_nat, List.getElem?_eq_getElem hi]
  rw [fold_loop start.2.2 (fun c k => law49_GateAgrees.j1 l order i c t45 t46 start.2.2.length k start acc) (fun c s => c || (s.2.1 == l[i].2.1 && s.1 == l[i].1)) (fun _ _ => True) (fun c => law49_GateAgrees.j3 l order i c t45 t46 acc.length 0 start acc) (fun c k hk _ => ?hF) (fun c k hk _ => trivial) (fun c _ => ?hE) false trivial]
  · congr 1
    have : ∀ (xs : List BatchT) (c : Bool), xs.foldl (fun c s => c || (s.2.1 == l[i].2.1 && s.1 == l[i].1)) c = (c || xs.any fun s => s.2.1 == l[i].2.1 && s.1 == l[i].1) := by
      intro xs
      induction xs with
      | nil => intro c; simp
      | cons a r ih => intro c; rw [List.foldl_cons, ih, List.any_cons, Bool.or_assoc]
    rw [this, Bool.false_or]
    rfl
  case hE => rw [law49_GateAgrees.j1_eq, lt_false (Nat.le_refl _), cond_false]
  case hF =>
    rw [law49_GateAgrees.j1_eq, lt_true hk, cond_true, hidx, idx_nat, List.getElem?_eq_getElem hk, wr_succ hk (by omega)]
    simp only [Option.bind_some]
    cases c with
    | true => rfl
    | false => cases start.2.2[k].2.1 == l[i].2.1 <;> rfl
theorem agr_j3 (l : List BatchT) (order : List Int) (i : Nat) (hi : i < l.length) (hl : l.length ≤ 60) (start : GateT) (acc : List BatchT) (ha : acc.length ≤ i) (hL : ∀ x ∈ acc, BatL x) (c : Bool) :
    law49_GateAgrees.j3 l order i c l.length i acc.length 0 start acc = law49_GateAgrees.j0 l order l.length ((i + 1 : Nat) : Int) start (bif c || clash2 acc l[i] then acc else acc ++ [l[i]]) := by
  have hidx : idx l (i : Int) = some l[i] := by rw [idx_nat, List.getElem?_eq_getElem hi]
  rw [fold_loop acc (fun c k => law49_GateAgrees.j3 l order i c l.length i acc.length k start acc) (fun c y => c || (y.2.1 == l[i].2.1 && (y.1 == l[i].1 && !decide (y = l[i])))) (fun _ _ => True) (fun c => law49_GateAgrees.j0 l order l.length ((i + 1 : Nat) : Int) start (bif c then acc else acc ++ [l[i]])) (fun c k hk _ => ?hF) (fun c k hk _ => trivial) (fun c _ => ?hE) c trivial]
  · have : ∀ (xs : List BatchT) (c : Bool), xs.foldl (fun c y => c || (y.2.1 == l[i].2.1 && (y.1 == l[i].1 && !decide (y = l[i])))) c = (c || xs.any fun y => y.2.1 == l[i].2.1 && (y.1 == l[i].1 && !decide (y = l[i]))) := by
      intro xs
      induction xs with
      | nil => intro c; simp
      | cons a r ih => intro c; rw [List.foldl_cons, ih, List.any_cons, Bool.or_assoc]
    rw [this]
    rfl
  case hE =>
    rw [law49_GateAgrees.j3_eq, lt_false (Nat.le_refl _), cond_false, hidx, Option.bind_some, room48 _ _ (by unfold lim48; omega), wr_succ hi (by omega)]
    cases c <;> rfl
  case hF =>
    rw [law49_GateAgrees.j3_eq, lt_true hk, cond_true, hidx, wr_succ hk (by omega), decide_eq_true (by omega : (0 : Int) ≤ (k : Int)), Bool.true_and, cond_true, Int.toNat_natCast, List.getElem?_eq_getElem hk]
    simp only [Option.bind_some, cond_true]
    rw [rbatSame_eq _ _ (hL _ (List.getElem_mem hk))]
    simp only [Option.bind_some]
    cases c with
    | true => rfl
    | false => cases acc[k].2.1 == l[i].2.1 <;> cases acc[k].1 == l[i].1 <;> rfl
theorem left_len (start : GateT) (l : List BatchT) : ∀ (acc : List BatchT), (l.foldl (fun acc x => bif clash1 start x || clash2 acc x then acc else acc ++ [x]) acc).length ≤ acc.length + l.length := by
  induction l with
  | nil => intro acc; simp
  | cons a r ih =>
    intro acc
    rw [List.foldl_cons]
    have := ih (bif clash1 start a || clash2 acc a then acc else acc ++ [a])
    have h2 : (bif clash1 start a || clash2 acc a then acc else acc ++ [a]).length ≤ acc.length + 1 := by cases clash1 start a || clash2 acc a <;> simp
    simp only [List.length_cons]
    omega
theorem left_ok (start : GateT) (l : List BatchT) : LeftOK start l (leftS start l) := by
  have key : ∀ (r acc : List BatchT), (∀ x ∈ r, x ∈ l) → LeftOK start l acc → LeftOK start l (r.foldl (fun acc x => bif clash1 start x || clash2 acc x then acc else acc ++ [x]) acc) := by
    intro r
    induction r with
    | nil => intro acc _ h; exact h
    | cons a r ih =>
      intro acc hr h
      rw [List.foldl_cons]
      exact ih _ (fun x hx => hr x (by simp [hx])) (left_step h (hr a (by simp)))
  exact key l [] (fun x hx => hx) ⟨by simp, by simp, by simp⟩
/-- batches that are added in an order: which ones -/
def picks (left : List BatchT) (order : List Int) : List BatchT := order.flatMap fun e => bif decide (e < 0) || left.isEmpty then [] else (left[e.toNat % left.length]?).toList
theorem picks_sub (left : List BatchT) (order : List Int) : ∀ x ∈ picks left order, x ∈ left := by
  intro x hx
  obtain ⟨e, _, hx⟩ := List.mem_flatMap.1 hx
  cases h : decide (e < 0) || left.isEmpty with
  | true => rw [h] at hx; simp at hx
  | false =>
    rw [h, cond_false, Option.mem_toList] at hx
    exact List.mem_of_getElem? hx
theorem agr_all (l : List BatchT) (order : List Int) (start : GateT) (hs : GatL start) (hs60 : start.2.2.length ≤ 60) (hl : l.length ≤ 60) (hL : ∀ x ∈ l, BatL x) (ho : order.length ≤ 100) :
    law49_GateAgrees.j0 l order l.length 0 start [] = law49_GateAgrees.j5 (-1) (leftS start l) ((leftS start l).foldl addAll start) ((leftS start l).reverse.foldl addAll ((picks (leftS start l) order).foldl addAll start)) := by
  rw [fold_loop l (fun acc k => law49_GateAgrees.j0 l order l.length k start acc) (fun acc x => bif clash1 start x || clash2 acc x then acc else acc ++ [x]) (fun acc k => acc.length ≤ k ∧ ∀ x ∈ acc, BatL x) (fun acc => law49_GateAgrees.j2 order acc.length 0 acc start start) (fun acc k hk hi => ?hF) (fun acc k hk hi => ?hI) (fun acc hi => ?hE) [] ⟨Nat.zero_le _, by simp⟩]
  case hE => rw [law49_GateAgrees.j0_eq, lt_false (Nat.le_refl _), cond_false]
  case hF => rw [law49_GateAgrees.j0_eq, lt_true hk, cond_true, agr_j1 l order k hk _ _ start acc hs60, agr_j3 l order k hk hl start acc hi.1 hi.2]
  case hI =>
    cases clash1 start l[k] || clash2 acc l[k]
    · refine ⟨by simp; omega, fun x hx => ?_⟩
      rcases List.mem_append.1 hx with hx | hx
      · exact hi.2 x hx
      · rw [List.mem_singleton] at hx; rw [hx]; exact hL _ (List.getElem_mem hk)
    · exact ⟨by simp only [cond_true]; omega, hi.2⟩
  have hlen := left_len start l []
  have hok := left_ok start l
  show law49_GateAgrees.j2 order (leftS start l).length 0 (leftS start l) start start = _
  have hlen' : (leftS start l).length ≤ 60 := by
    have : (leftS start l).length ≤ ([] : List BatchT).length + l.length := hlen
    simp only [List.length_nil] at this
    omega
  have hLL : ∀ x ∈ leftS start l, BatL x := fun x hx => hL x (hok.sub x hx)
  generalize leftS start l = left at hlen' hLL ⊢
  rw [fold_loop left (fun a k => law49_GateAgrees.j2 order left.length k left a start) addAll (fun a k => GatL a ∧ a.2.2.length ≤ 60 + k) (fun a => law49_GateAgrees.j4 order order.length 0 left a start) (fun a k hk hi => ?hF) (fun a k hk hi => ?hI) (fun a hi => ?hE) start ⟨hs, hs60⟩]
  case hE => rw [law49_GateAgrees.j2_eq, lt_false (Nat.le_refl _), cond_false]
  case hF => rw [law49_GateAgrees.j2_eq, lt_true hk, cond_true, decide_eq_true (by omega : (0 : Int) ≤ (k : Int)), Bool.true_and, cond_true, Int.toNat_natCast, List.getElem?_eq_getElem hk, Option.bind_some, wr_succ hk (by omega), add_one hi.1 (hLL _ (List.getElem_mem hk)) (by unfold lim48; omega) (fun a => law49_GateAgrees.j2 order left.length ((k + 1 : Nat) : Int) left a start)]
  case hI =>
    obtain ⟨h1, h2⟩ := addAll_L hi.1 (hLL _ (List.getElem_mem hk)) (by unfold lim48; omega)
    exact ⟨h1, by omega⟩
  generalize left.foldl addAll start = a
  rw [fold_loop order (fun b k => law49_GateAgrees.j4 order order.length k left a b) (fun b e => (picks left [e]).foldl addAll b) (fun b k => GatL b ∧ b.2.2.length ≤ 60 + k) (fun b => law49_GateAgrees.j5 (IntKind.i64.wrap ((left.length : Int) - 1)) left a b) (fun b k hk hi => ?hG) (fun b k hk hi => ?hJ) (fun b hi => ?hH) start ⟨hs, hs60⟩]
  case hH => rw [law49_GateAgrees.j4_eq, lt_false (Nat.le_refl _), cond_false]
  case hG =>
    rw [law49_GateAgrees.j4_eq, lt_true hk, cond_true, idx_nat, List.getElem?_eq_getElem hk, Option.bind_some, Option.bind_some, wr_succ hk (by omega), isEmpty_len]
    generalize order[k] = e
    unfold picks
    simp only [List.flatMap_cons, List.flatMap_nil, List.append_nil]
    by_cases h0 : e < 0
    · rw [decide_eq_true h0]; rfl
    · rw [decide_eq_false h0, cond_false, Bool.false_or]
      cases he : left.isEmpty with
      | true => rfl
      | false =>
        have hpos : 0 < left.length := by
          cases left with
          | nil => cases he
          | cons _ _ => simp
        have hm : Int.tmod e (left.length : Int) = ((e.toNat % left.length : Nat) : Int) := by
          obtain ⟨n, rfl⟩ := Int.eq_ofNat_of_zero_le (by omega : 0 ≤ e)
          rfl
        have hlt : e.toNat % left.length < left.length := Nat.mod_lt _ hpos
        rw [cond_false, Bool.not_false, cond_true, hm, decide_eq_true (by omega : (0 : Int) ≤ ((e.toNat % left.length : Nat) : Int)), lt_true hlt, Bool.true_and, cond_true, Int.toNat_natCast, List.getElem?_eq_getElem hlt, Option.bind_some, add_one hi.1 (hLL _ (List.getElem_mem hlt)) (by unfold lim48; omega) (fun b => law49_GateAgrees.j4 order order.length ((k + 1 : Nat) : Int) left a b)]
        rfl
  case hJ =>
    unfold picks
    simp only [List.flatMap_cons, List.flatMap_nil, List.append_nil]
    cases decide (order[k] < 0) || left.isEmpty with
    | true => exact ⟨hi.1, by simp only [cond_true, List.foldl_nil]; omega⟩
    | false =>
      rw [cond_false]
      cases hx : left[order[k].toNat % left.length]? with
      | none => exact ⟨hi.1, by simp only [Option.toList_none, List.foldl_nil]; omega⟩
      | some x =>
        obtain ⟨h1, h2⟩ := addAll_L hi.1 (hLL _ (List.mem_of_getElem? hx)) (by unfold lim48; omega)
        exact ⟨h1, by simp only [Option.toList_some, List.foldl_cons, List.foldl_nil]; omega⟩
  have hpk : ∀ (o : List Int) (b : GateT), o.foldl (fun b e => (picks left [e]).foldl addAll b) b = (picks left o).foldl addAll b := by
    intro o
    induction o with
    | nil => intro b; rfl
    | cons e r ih =>
      intro b
      rw [List.foldl_cons, ih]
      unfold picks
      rw [List.flatMap_cons, List.flatMap_cons, List.flatMap_nil, List.append_nil, List.foldl_append]
  rw [hpk]
  -- the length behind the order
  have hb : GatL ((picks left order).foldl addAll start) ∧ ((picks left order).foldl addAll start).2.2.length ≤ 60 + order.length := by
    have key : ∀ (o : List Int) (b : GateT), GatL b → b.2.2.length + o.length ≤ 1000 → GatL ((picks left o).foldl addAll b) ∧ ((picks left o).foldl addAll b).2.2.length ≤ b.2.2.length + o.length := by
      intro o
      induction o with
      | nil => intro b h _; exact ⟨h, Nat.le_refl _⟩
      | cons e r ih =>
        intro b h hn
        rw [← hpk, List.foldl_cons, hpk]
        have hone : GatL ((picks left [e]).foldl addAll b) ∧ ((picks left [e]).foldl addAll b).2.2.length ≤ b.2.2.length + 1 := by
          unfold picks
          simp only [List.flatMap_cons, List.flatMap_nil, List.append_nil]
          cases decide (e < 0) || left.isEmpty with
          | true => exact ⟨h, by simp⟩
          | false =>
            rw [cond_false]
            cases hx : left[e.toNat % left.length]? with
            | none => exact ⟨h, by simp⟩
            | some x => exact addAll_L h (hLL _ (List.mem_of_getElem? hx)) (by unfold lim48; omega)
        obtain ⟨h1, h2⟩ := ih _ hone.1 (by simp only [List.length_cons] at hn; have := hone.2; omega)
        refine ⟨h1, ?_⟩
        have := hone.2
        simp only [List.length_cons]
        omega
    obtain ⟨h1, h2⟩ := key order start hs (by omega)
    exact ⟨h1, by omega⟩
  generalize (picks left order).foldl addAll start = b at hb
  rw [wr_in (by omega) (by omega)]
  have hdown : ∀ m (b : GateT), m ≤ left.length → GatL b → b.2.2.length + m ≤ 1000 → law49_GateAgrees.j5 ((m : Int) - 1) left a b = law49_GateAgrees.j5 (-1) left a ((left.take m).reverse.foldl addAll b) := by
    intro m
    induction m with
    | zero => intro b _ _ _; rfl
    | succ m ih =>
      intro b hm hb hn
      have hlt : m < left.length := by omega
      have e : left.take (m + 1) = left.take m ++ [left[m]] := by rw [List.take_add_one, List.getElem?_eq_getElem hlt]; rfl
      obtain ⟨h1, h2⟩ := addAll_L hb (hLL _ (List.getElem_mem hlt)) (by unfold lim48; omega)
      rw [show (((m + 1 : Nat) : Int) - 1) = (m : Int) by omega, law49_GateAgrees.j5_eq, decide_eq_true (by omega : (m : Int) ≥ 0), cond_true, lt_true hlt, Bool.true_and, cond_true, Int.toNat_natCast, List.getElem?_eq_getElem hlt, Option.bind_some, wr_in (by omega) (by omega), add_one hb (hLL _ (List.getElem_mem hlt)) (by unfold lim48; omega) (fun b => law49_GateAgrees.j5 ((m : Int) - 1) left a b), ih _ (by omega) h1 (by omega), e, List.reverse_append]
      rfl
  have := hdown left.length b (Nat.le_refl _) hb.1 (by omega)
  rw [List.take_length] at this
  exact this
theorem agree_end (start : GateT) (l : List BatchT) (order : List Int) : (leftS start l).foldl addAll start = (leftS start l).reverse.foldl addAll ((picks (leftS start l) order).foldl addAll start) := by
  have hok := left_ok start l
  generalize leftS start l = left at hok ⊢
  cases hg : gateOK start with
  | false =>
    have hno : ∀ x, addAll start x = start := fun x => by
      rcases add_ways start x with h | ⟨h, _⟩
      · exact h
      · rw [hg] at h; cases h
    have hfold : ∀ xs : List BatchT, xs.foldl addAll start = start := by
      intro xs
      induction xs with
      | nil => rfl
      | cons x r ih => rw [List.foldl_cons, hno, ih]
    rw [hfold, hfold, hfold]
  | true =>
    have h0 : Mid start left start := ⟨(gateOK_iff _).1 hg, rfl, rfl, fun y hy => .inl hy, fun y hy => hy⟩
    obtain ⟨a1, a2, _⟩ := Mid.fold hok.no hok.one left (fun x hx => hx) h0
    obtain ⟨p1, _, _⟩ := Mid.fold hok.no hok.one (picks left order) (picks_sub left order) h0
    obtain ⟨b1, b2, _⟩ := Mid.fold hok.no hok.one left.reverse (fun x hx => List.mem_reverse.1 hx) p1
    exact Mid.same a1 b1 a2 fun x hx hG => b2 x (List.mem_reverse.2 hx) hG
theorem agrees (start : GateT) (l : List BatchT) (order : List Int) (hg : Fits cGate start) (hl : Fits (.slice cBatch) l) : law49_GateAgrees.f start l order = some true := by
  obtain ⟨r, h1, h2⟩ := few_len start (fits_gate hg).1 (fits_gate hg).2
  obtain ⟨s, h3, h4⟩ := few_len (0, [], l) hl.1 fun b hb => (hl.2 b hb).2.2.2.1
  rw [law49_GateAgrees.f_eq, h1, Option.bind_some, alive_eq, h3]
  cases r with
  | false => rfl
  | true =>
    cases s with
    | false => rfl
    | true =>
      obtain ⟨hL, h60, _⟩ := h2 rfl
      obtain ⟨hL2, h602, _⟩ := h4 rfl
      by_cases ho : ((order.length : Nat) : Int) > 100
      · rw [decide_eq_true ho]; rfl
      · rw [decide_eq_false ho]
        simp only [Bool.not_true, cond_false, Option.bind_some]
        have hlen : l.length ≤ 60 := h602
        have hoL : order.length ≤ 100 := by omega
        rw [agr_all l order start hL h60 hlen hL2.2.2 hoL, ← agree_end start l order, law49_GateAgrees.j5_eq, decide_eq_false (by decide), cond_false]
        -- how large the gate is
        have ha : GatL ((leftS start l).foldl addAll start) := by
          have hok := left_ok start l
          have hlen2 : (leftS start l).length ≤ 60 := by
            have : (leftS start l).length ≤ ([] : List BatchT).length + l.length := left_len start l []
            simp only [List.length_nil] at this
            omega
          have key : ∀ (xs : List BatchT) (g : GateT), (∀ x ∈ xs, BatL x) → GatL g → g.2.2.length + xs.length ≤ 1000 → GatL (xs.foldl addAll g) := by
            intro xs
            induction xs with
            | nil => intro g _ h _; exact h
            | cons x r ih =>
              intro g hx h hn
              simp only [List.length_cons] at hn
              obtain ⟨k1, k2⟩ := addAll_L h (hx x (by simp)) (by unfold lim48; omega)
              exact ih _ (fun y hy => hx y (by simp [hy])) k1 (by omega)
          exact key _ _ (fun x hx => hL2.2.2 x (hok.sub x hx)) hL (by omega)
        generalize (leftS start l).foldl addAll start = a at ha ⊢
        have hT : GatL (takeS a).1 := by
          unfold takeS
          cases gateOK a
          · exact GatL.nil 0 (Nat.zero_le _)
          cases openS a
          · exact GatL.nil 0 (Nat.zero_le _)
          cases a.1 == 1048576
          · exact dropL _ ⟨ha.1, Nat.le_trans (List.length_filter_le _ _) ha.2.1, fun b hb => ha.2.2 b (List.mem_filter.1 hb).1⟩
          · exact GatL.nil 0 (Nat.zero_le _)
        rw [take_eq a ha]
        simp only [Option.bind_some]
        rw [gatSame_eq _ _ ha, decide_eq_true rfl, Option.bind_some, cond_true, gatSame_eq _ _ hT, decide_eq_true rfl, Option.bind_some, cond_true, sameCmds_eq _ _ (take_cmds ha).1 (take_cmds ha).2, decide_eq_true rfl, Option.bind_some, cond_true, beq_self_eq_true, cond_true, alive_eq]
        rfl
end Go.Proofs.Ytdbhfpngfjlgjaa

/- Validity of any batch, however large; what a valid batch is made of. -/
set_option linter.unusedVariables false
set_option linter.unusedSimpArgs false
namespace Go.Proofs.Ytdbhfpngfjlgjaa
open Go Go.Sk

theorem name_any (s : ByteArray) : ref09_Name.f s = some (nameS s) := by
  by_cases h : s.size ≤ lim48
  · exact name_eq s h
  · unfold lim48 at h
    rw [ref09_Name.f_eq, decide_eq_false (by omega : ¬ ((s.size : Int) < 1)), cond_false, decide_eq_true (by omega : (s.size : Int) > 12), cond_true]
    unfold nameS
    rw [decide_eq_false (by omega : ¬ s.size ≤ 12)]
    simp
section
variable (c : CmdT)
theorem aj5 (t : Bool) : ref34_Valid.j5 t c = bif t then some 1 else e5 c := by
  rw [ref34_Valid.j5_eq, nm_eq, name_any]
  unfold e5
  cases t <;> cases nmS c.2.1 <;> cases nameS c.2.2.2.2.2.2.1 <;> simp [ref34_Valid.j6_eq]
theorem aj4 (t : Bool) : ref34_Valid.j4 4 t c = bif t then some 1 else e4 c := by
  rw [ref34_Valid.j4_eq, n_eq]
  simp only [aj5 c, Option.bind_some]
  unfold e4
  cases t <;> cases nS c.2.1 <;> cases decide (c.2.2.2.2.2.1 < 0) <;> rfl
theorem aj3 (t : Bool) : ref34_Valid.j3 4 t c = bif t then some 1 else e3 c := by
  rw [ref34_Valid.j3_eq]
  simp only [aj4 c]
  unfold e3
  cases t <;> cases c.2.1 == 2 <;> cases decide (c.2.2.2.2.1 < 1) <;> rfl
theorem aj2 {v : Bool} (hv : ref02_Valid.f c.2.2.2.1 = some v) (t : Bool) : ref34_Valid.j2 4 t c = bif t then some 1 else e2 c v := by
  rw [ref34_Valid.j2_eq, at_eq, hv]
  simp only [aj3 c, Option.bind_some]
  unfold e2
  cases t <;> cases atS c.2.1 <;> rfl
theorem aj1 {v : Bool} (hv : ref02_Valid.f c.2.2.2.1 = some v) (hu : c.2.2.1.length ≤ lim48) : ref34_Valid.j1 4 c = e1 c v := by
  rw [ref34_Valid.j1_eq, ord_eq, rsingle_eq, listed_eq c hu]
  simp only [aj2 c hv, Option.bind_some]
  unfold e1
  cases ordS c.2.1 <;> cases singleS c.2.1 <;> rfl
end
/-- the error of a command, as one formula -/
theorem err_form (c : CmdT) : ∃ v, ref34_Valid.f c = bif decide (c.2.1 < 1) then some 1 else bif decide (c.2.1 > 12) then some 1 else bif decide (c.1 < 1) then some 1 else bif decide (c.1 > 6) then some 1 else bif !bareS c then some 1 else bif decide ((c.2.2.1.length : Int) > 64) then some 2 else e1 c v := by
  obtain ⟨_, v, hv⟩ := vec_eq c.2.2.2.1
  have r0 : ∀ t, ref34_Valid.j0 t c = bif t then some 1 else bif decide ((c.2.2.1.length : Int) > 64) then some 2 else e1 c v := fun t => by
    rw [ref34_Valid.j0_eq]
    by_cases h : ((c.2.2.1.length : Nat) : Int) > 64
    · rw [decide_eq_true h]; rfl
    · rw [aj1 c hv (by unfold lim48; omega)]
      cases c.2.1 == 1 <;> rfl
  refine ⟨v, ?_⟩
  rw [ref34_Valid.f_eq, bare_eq]
  simp only [r0, Option.bind_some, cond_true]
theorem rvalid_any (c : CmdT) : ref34_Valid.f c = some (errOf c) := by
  obtain ⟨v, h⟩ := err_form c
  have : ∃ r, ref34_Valid.f c = some r := by
    rw [h]
    exact bif_some _ _ (bif_some _ _ (bif_some _ _ (bif_some _ _ (bif_some _ _ (bif_some _ _ (e1_some c v))))))
  obtain ⟨r, hr⟩ := this
  unfold errOf
  rw [hr]; rfl
theorem bif_zero {a : Bool} {x : Int} {o : Option Int} (hx : x ≠ 0) (h : (bif a then some x else o) = some 0) : a = false ∧ o = some 0 := by
  cases a with
  | true => exact absurd (Option.some.inj h) hx
  | false => exact ⟨rfl, h⟩
theorem nameS_size {s : ByteArray} (h : nameS s = true) : s.size ≤ 12 := by
  unfold nameS at h
  simp only [Bool.and_eq_true, decide_eq_true_eq] at h
  exact h.1.1.2
theorem err0_L {c : CmdT} (h : errOf c = 0) : CmdL c := by
  obtain ⟨v, hf⟩ := err_form c
  rw [rvalid_any, h] at hf
  have h1 := (bif_zero (by decide) hf.symm).2
  have h2 := (bif_zero (by decide) h1).2
  have h3 := (bif_zero (by decide) h2).2
  have h4 := (bif_zero (by decide) h3).2
  obtain ⟨hb, h5⟩ := bif_zero (by decide) h4
  obtain ⟨hl, h6⟩ := bif_zero (by decide) h5
  have h7 := (bif_zero (by decide) h6).2
  have h8 := (bif_zero (by decide) h7).2
  have h9 := (bif_zero (by decide) h8).2
  have h10 := (bif_zero (by decide) h9).2
  have h11 := (bif_zero (by decide) h10).1
  rw [decide_eq_false_iff_not] at hl
  refine ⟨by unfold lim48; omega, ?_⟩
  rw [Bool.not_eq_false'] at hb
  unfold bareS at hb
  simp only [Bool.and_eq_true, Bool.or_eq_true, decide_eq_true_eq] at hb
  rcases hb.2.2.2.2.1 with hn | hn
  · rw [hn, Bool.true_and, Bool.not_eq_false'] at h11
    have := nameS_size h11
    unfold lim48; omega
  · rw [hn]; exact Nat.zero_le _
theorem rbat_any (b : BatchT) : ref46_Valid.f b = some (batOK b) := by
  by_cases h16 : ((b.2.2.2.length : Nat) : Int) > 16
  · rw [ref46_Valid.f_eq]
    unfold batOK
    rw [decide_eq_true h16]
    simp only [cond_true, Bool.not_true, Bool.false_and, Bool.and_false]
    cases decide (b.1 < 1) <;> cases decide (b.1 > 6) <;> cases decide (b.2.1 < 0) <;> cases decide (b.2.1 > 1048584) <;> cases decide (b.2.2.1 < 0) <;> cases decide (b.2.2.1 > 1048576) <;> rfl
  · have hloop : ref46_Valid.j0 0 b = some (!(b.2.2.2.any (badCmd b.1))) := by
      rw [any_loop b.2.2.2 (fun i => ref46_Valid.j0 i b) (badCmd b.1) false (some true) (fun k hk => ?hF) ?hE]
      · cases b.2.2.2.any (badCmd b.1) <;> rfl
      case hF =>
        rw [ref46_Valid.j0_eq, lt_true hk, cond_true, idx_nat, List.getElem?_eq_getElem hk, Option.bind_some, Option.bind_some, rvalid_any, Option.bind_some, wr_succ hk (by omega)]
        unfold badCmd
        cases errOf b.2.2.2[k] != 0 <;> cases b.2.2.2[k].1 != b.1 <;> rfl
      case hE =>
        rw [ref46_Valid.j0_eq, lt_false (Nat.le_refl _), cond_false]
    rw [ref46_Valid.f_eq, hloop]
    simp only [c4]
    rfl
structure BOK (b : BatchT) : Prop where
  p : 1 ≤ b.1 ∧ b.1 ≤ 6
  t : 0 ≤ b.2.1 ∧ b.2.1 ≤ 1048584
  l : 0 ≤ b.2.2.1 ∧ b.2.2.1 ≤ 1048576
  n : b.2.2.2.length ≤ 16
  c : ∀ c ∈ b.2.2.2, errOf c = 0 ∧ c.1 = b.1
theorem batOK_iff (b : BatchT) : batOK b = true ↔ BOK b := by
  unfold batOK badCmd
  simp only [Bool.and_eq_true, Bool.not_eq_true', decide_eq_false_iff_not, List.any_eq_false]
  constructor
  · rintro ⟨h1, h2, h3, h4, h5, h6, h7, h8⟩
    refine ⟨by omega, by omega, by omega, by omega, fun c hc => ?_⟩
    have := h8 c hc
    simp only [Bool.or_eq_true, bne_iff_ne, ne_eq, not_or, Decidable.not_not] at this
    exact this
  · rintro ⟨h1, h2, h3, h4, h5⟩
    refine ⟨by omega, by omega, by omega, by omega, by omega, by omega, by omega, fun c hc => ?_⟩
    obtain ⟨h6, h7⟩ := h5 c hc
    simp [h6, h7]
theorem BOK.L {b : BatchT} (h : BOK b) : BatL b := ⟨Nat.le_trans h.n (by decide), fun c hc => err0_L (h.c c hc).1⟩
/-- a gate of no batches, however many players -/
theorem gateValid_nil (t : Int) (ps : List Int) (hp : ps.length ≤ 9223372036854775807) : gate_Valid.f (t, ps, []) = some (gateOK (t, ps, [])) := by
  have h1 : gate_Valid.j1 ([] : List BatchT) 0 0 (t, ps, []) = some true := by rw [gate_Valid.j1_eq]; rfl
  have h0 : gate_Valid.j0 ps ps.length 0 (t, ps, []) = some (!((List.range ps.length).any (badPl ps))) := by
    rw [cnt_loop ps.length (fun i => gate_Valid.j0 ps ps.length i (t, ps, [])) (badPl ps) false (some true) (fun k hk => ?hF) ?hE, b_end1]
    case hE => rw [gate_Valid.j0_eq, lt_false (Nat.le_refl _), cond_false]; exact h1
    case hF =>
      rw [gate_Valid.j0_eq, lt_true hk, cond_true, idx_nat, List.getElem?_eq_getElem hk, Option.bind_some, badPl_at _ _ hk, wr_succ hk hp]
      cases decide (ps[k] < 1) with
      | true => rfl
      | false =>
        cases decide (ps[k] > 6) with
        | true => rfl
        | false =>
          simp only [cond_false, Bool.false_or]
          by_cases h0 : 0 < k
          · rw [decide_eq_true (by omega : (k : Int) > 0), cond_true, prev_idx _ _ hk hp h0, Option.bind_some, decide_eq_true h0, List.getElem?_eq_getElem (by omega)]
            rfl
          · rw [decide_eq_false (by omega : ¬ (k : Int) > 0), cond_false, decide_eq_false h0]
            rfl
  rw [gate_Valid.f_eq]
  show (bif decide (t < 0) then some false else bif decide (t > 1048576) then some false else gate_Valid.j0 ps ps.length 0 (t, ps, [])) = _
  rw [h0]
  simp only [c4]
  unfold gateOK
  simp
theorem clone_any (s : List Int) (hs : s.length * 8 ≤ 140737488355328) : slices_Clone.f s = some s := by
  have e : cfg.prim 33 [(.one (.slc (.int .i64) s))] [] ⟨[.one (.own (.int .i64))], 0⟩ = some s := if_pos hs
  unfold slices_Clone.f callX orPrim
  rw [e]
  rfl
theorem new_any (turn : Int) (ps : List Int) (h : ps.length * 8 ≤ 140737488355328) : gate_New.f turn ps = some (newS turn ps) := by
  rw [gate_New.f_eq, clone_any _ h, Option.bind_some, gateValid_nil _ _ (by omega), Option.bind_some]
  unfold newS
  cases gateOK (turn, ps, []) <;> rfl
end Go.Proofs.Ytdbhfpngfjlgjaa

/- The statement GateRuns. -/
set_option linter.unusedVariables false
set_option linter.unusedSimpArgs false
set_option linter.unusedSectionVars false
namespace Go.Proofs.Ytdbhfpngfjlgjaa
open Go Go.Sk

theorem gd {α : Type} (l : List α) (d : α) {k : Nat} (h : k < l.length) : l.getD k d = l[k] := by rw [List.getD_eq_getElem?_getD, List.getElem?_eq_getElem h]; rfl
theorem room96' (acc : List CmdT) (e : CmdT) (h : acc.length ≤ lim48) : decide ((List.length acc + List.length [e]) * 96 ≤ 140737488355328) = true := by unfold lim48 at h; exact decide_eq_true (by simp; omega)
def noRes (l : List CmdT) : List CmdT := l.filter fun c => c.2.1 != 12
theorem nores_eq (l : List CmdT) (hl : l.length ≤ lim48) : law49_without.f l = some (noRes l) := by
  have hl' := hl
  unfold lim48 at hl'
  rw [law49_without.f_eq, filter_loop l (fun acc i => law49_without.j0 l l.length i acc) (fun c => c.2.1 != 12) id some (fun acc k hk ha => ?hF) (fun acc ha => ?hE)]
  · rw [List.map_id]; rfl
  case hE => rw [law49_without.j0_eq, lt_false (Nat.le_refl _), cond_false]
  case hF => rw [law49_without.j0_eq, lt_true hk, cond_true, idx_nat, List.getElem?_eq_getElem hk, Option.bind_some, Option.bind_some, wr_succ hk (by omega), room96' _ _ (by omega), cond_true]; rfl

section
variable (turn : Int) (ps : List Int) (turns : List (List BatchT))
/-- does a turn's list hold a batch for a player? -/
noncomputable def has (i k : Nat) : Bool := match (turns.getD i [])[k]? with
  | some x => batOK x && x.1 == ps.getD k 0
  | none => false
noncomputable def cm (i k : Nat) : List CmdT := match (turns.getD i [])[k]? with
  | some x => bif batOK x && x.1 == ps.getD k 0 then noRes x.2.2.2 else []
  | none => []
noncomputable def bt (i k : Nat) : BatchT := (ps.getD k 0, turn + i, 0, cm ps turns i k)
noncomputable def row (i : Nat) : List BatchT := (List.range ps.length).map (bt turn ps turns i)
noncomputable def rest (i : Nat) : List BatchT := (List.range' i (turns.length - i)).flatMap (row turn ps turns)
theorem rest_step {i : Nat} (h : i < turns.length) : rest turn ps turns i = row turn ps turns i ++ rest turn ps turns (i + 1) := by
  unfold rest
  rw [show turns.length - i = (turns.length - (i + 1)) + 1 by omega, List.range'_succ, List.flatMap_cons]
theorem rest_end {i : Nat} (h : turns.length ≤ i) : rest turn ps turns i = [] := by
  unfold rest
  rw [show turns.length - i = 0 by omega]; rfl
theorem rest_mem {i : Nat} {b : BatchT} : b ∈ rest turn ps turns i ↔ ∃ j k, i ≤ j ∧ j < turns.length ∧ k < ps.length ∧ b = bt turn ps turns j k := by
  unfold rest row
  simp only [List.mem_flatMap, List.mem_range', List.mem_map, List.mem_range]
  constructor
  · rintro ⟨j, ⟨q, h1, rfl⟩, k, h2, rfl⟩
    exact ⟨i + 1 * q, k, by omega, by omega, h2, rfl⟩
  · rintro ⟨j, k, h1, h2, h3, rfl⟩
    exact ⟨j, ⟨j - i, by omega, by omega⟩, k, h3, rfl⟩
theorem row_len (i : Nat) : (row turn ps turns i).length = ps.length := by unfold row; simp
theorem rest_len (i : Nat) : (rest turn ps turns i).length ≤ turns.length * ps.length := by
  have key : ∀ m i, turns.length - i = m → (rest turn ps turns i).length = m * ps.length := by
    intro m
    induction m with
    | zero => intro i h; rw [rest_end turn ps turns (by omega)]; simp
    | succ m ih =>
      intro i h
      rw [rest_step turn ps turns (by omega), List.length_append, row_len, ih (i + 1) (by omega), Nat.succ_mul]
      omega
  rw [key _ i rfl]
  exact Nat.mul_le_mul_right _ (by omega)
variable (hg : GOK (turn, ps, [])) (ht : turn ≤ 1048566) (hn : turns.length ≤ 6)
include hg ht hn
theorem bt_ok {i k : Nat} (hi : i < turns.length) (hk : k < ps.length) : BOK (bt turn ps turns i k) := by
  have hp := hg.pl.1 (ps.getD k 0) (by rw [gd _ _ hk]; exact List.getElem_mem hk)
  have h0 : 0 ≤ turn := hg.t0
  have hcm : (cm ps turns i k).length ≤ 16 ∧ ∀ c ∈ cm ps turns i k, errOf c = 0 ∧ c.1 = ps.getD k 0 := by
    unfold cm
    cases (turns.getD i [])[k]? with
    | none => exact ⟨Nat.zero_le _, fun c hc => by simp at hc⟩
    | some x =>
      simp only
      cases hx : batOK x && x.1 == ps.getD k 0 with
      | false => exact ⟨Nat.zero_le _, fun c hc => by simp at hc⟩
      | true =>
        rw [Bool.and_eq_true, batOK_iff, beq_iff_eq] at hx
        refine ⟨Nat.le_trans (List.length_filter_le _ _) hx.1.n, fun c hc => ?_⟩
        have := hx.1.c c (List.mem_filter.1 hc).1
        rw [hx.2] at this
        exact this
  exact ⟨hp, ⟨by show 0 ≤ turn + i; omega, by show turn + i ≤ 1048584; omega⟩, ⟨by show (0 : Int) ≤ 0; omega, by show (0 : Int) ≤ 1048576; omega⟩, hcm.1, hcm.2⟩
theorem bt_L {i k : Nat} (hi : i < turns.length) (hk : k < ps.length) : BatL (bt turn ps turns i k) := (bt_ok turn ps turns hg ht hn hi hk).L
theorem rest_ok (j : Nat) (t : Int) (h0 : 0 ≤ t) (h1 : t ≤ 1048576) (hj : t ≤ turn + j) : GOK (t, ps, rest turn ps turns j) := by
  refine ⟨h0, h1, hg.pl, fun b hb => ?_, fun b hb => ?_, fun b hb => ?_, ?_⟩
  · obtain ⟨i, k, h2, h3, h4, rfl⟩ := (rest_mem turn ps turns).1 hb
    exact (batOK_iff _).2 (bt_ok turn ps turns hg ht hn h3 h4)
  · obtain ⟨i, k, h2, h3, h4, rfl⟩ := (rest_mem turn ps turns).1 hb
    show ps.getD k 0 ∈ ps
    rw [gd _ _ h4]
    exact List.getElem_mem h4
  · obtain ⟨i, k, h2, h3, h4, rfl⟩ := (rest_mem turn ps turns).1 hb
    show t ≤ turn + i
    omega
  · have key : ∀ m i, turns.length - i = m → (rest turn ps turns i).Pairwise Bef := by
      intro m
      induction m with
      | zero => intro i h; rw [rest_end turn ps turns (by omega)]; exact List.Pairwise.nil
      | succ m ih =>
        intro i h
        rw [rest_step turn ps turns (by omega)]
        refine List.pairwise_append.2 ⟨?_, ih (i + 1) (by omega), fun a ha b hb => ?_⟩
        · unfold row
          rw [List.pairwise_map]
          refine List.Pairwise.imp_of_mem (fun {a b} ha hb hab => ?_) List.pairwise_lt_range
          rw [List.mem_range] at ha hb
          right
          refine ⟨rfl, ?_⟩
          show ps.getD a 0 < ps.getD b 0
          rw [gd _ _ ha, gd _ _ hb]
          exact List.pairwise_iff_getElem.1 (show PlOK ps from hg.pl).2 a b ha hb hab
        · unfold row at ha
          obtain ⟨k, _, rfl⟩ := List.mem_map.1 ha
          obtain ⟨i2, k2, h2, h3, h4, rfl⟩ := (rest_mem turn ps turns).1 hb
          left
          show turn + (i : Int) < turn + (i2 : Int)
          omega
    exact key _ j rfl
theorem rest_L (j : Nat) (t : Int) : GatL (t, ps, rest turn ps turns j) := by
  have h6 : ps.length ≤ 6 := hg.few
  have hl := rest_len turn ps turns j
  have : turns.length * ps.length ≤ 6 * 6 := Nat.mul_le_mul hn h6
  refine ⟨by show ps.length ≤ _; unfold lim48; omega, by show (rest turn ps turns j).length ≤ _; unfold lim48; omega, fun b hb => ?_⟩
  obtain ⟨i, k, h2, h3, h4, rfl⟩ := (rest_mem turn ps turns).1 hb
  exact bt_L turn ps turns hg ht hn h3 h4
/-- one batch is added -/
theorem runs_add {i k : Nat} (hi : i < turns.length) (hk : k < ps.length) : gate_Add.f (turn, ps, (row turn ps turns i).take k ++ rest turn ps turns (i + 1)) (bt turn ps turns i k) = some ((turn, ps, (row turn ps turns i).take (k + 1) ++ rest turn ps turns (i + 1)), 0) := by
  have hL := rest_L turn ps turns hg ht hn i turn
  have hO := rest_ok turn ps turns hg ht hn i turn hg.t0 (by omega) (by omega)
  have hsub : ((row turn ps turns i).take k ++ rest turn ps turns (i + 1)).Sublist (rest turn ps turns i) := by
    rw [rest_step turn ps turns hi]
    exact List.Sublist.append (List.take_sublist _ _) (List.Sublist.refl _)
  have hlen : (rest turn ps turns i).length ≤ 36 := by
    have h6 : ps.length ≤ 6 := hg.few
    exact Nat.le_trans (rest_len turn ps turns i) (Nat.mul_le_mul hn h6)
  have hL2 : GatL (turn, ps, (row turn ps turns i).take k ++ rest turn ps turns (i + 1)) := ⟨hL.1, Nat.le_trans hsub.length_le hL.2.1, fun b hb => hL.2.2 b (hsub.subset hb)⟩
  have hO2 : GOK (turn, ps, (row turn ps turns i).take k ++ rest turn ps turns (i + 1)) := ⟨hO.t0, hO.t1, hO.pl, fun b hb => hO.ok b (hsub.subset hb), fun b hb => hO.mem b (hsub.subset hb), fun b hb => hO.tu b (hsub.subset hb), hO.bef.sublist hsub⟩
  have hb := bt_ok turn ps turns hg ht hn hi hk
  have hlo : ∀ y ∈ (row turn ps turns i).take k, Bef y (bt turn ps turns i k) := fun y hy => by
    obtain ⟨q, hq, rfl⟩ := List.getElem_of_mem hy
    have hqk : q < k := by rw [List.length_take] at hq; omega
    have e : ((row turn ps turns i).take k)[q] = bt turn ps turns i q := by
      rw [List.getElem_take]
      unfold row
      rw [List.getElem_map, List.getElem_range]
    rw [e]
    right
    refine ⟨rfl, ?_⟩
    show ps.getD q 0 < ps.getD k 0
    rw [gd _ _ (by omega), gd _ _ hk]
    exact List.pairwise_iff_getElem.1 (show PlOK ps from hg.pl).2 q k (by omega) hk hqk
  have hhi : ∀ y ∈ rest turn ps turns (i + 1), Bef (bt turn ps turns i k) y := fun y hy => by
    obtain ⟨i2, k2, h2, h3, h4, rfl⟩ := (rest_mem turn ps turns).1 hy
    left
    show turn + (i : Int) < turn + (i2 : Int)
    omega
  have hnone : ((row turn ps turns i).take k ++ rest turn ps turns (i + 1)).find? (sameK (bt turn ps turns i k)) = none := List.find?_eq_none.2 fun y hy => by
    rcases List.mem_append.1 hy with hy | hy
    · rw [not_same_of_bef (hlo y hy)]; simp
    · rw [not_same_of_bef' (hhi y hy)]; simp
  have hmem : (bt turn ps turns i k).1 ∈ ps := by
    show ps.getD k 0 ∈ ps
    rw [gd _ _ hk]
    exact List.getElem_mem hk
  rw [add_eq _ _ hL2 hb.L (by have := hsub.length_le; show _ ≤ lim48; unfold lim48; show ((row turn ps turns i).take k ++ rest turn ps turns (i + 1)).length + 1 ≤ _; omega)]
  unfold addS
  rw [(gateOK_iff _).2 hO2, (batOK_iff _).2 hb]
  simp only [Bool.not_true, cond_false]
  rw [decide_eq_true hmem, decide_eq_false (show ¬ (bt turn ps turns i k).2.1 < turn by show ¬ (turn + (i : Int) < turn); omega)]
  simp only [Bool.not_true, cond_false, hnone]
  rw [ins_at hlo hhi]
  have e : (row turn ps turns i).take (k + 1) = (row turn ps turns i).take k ++ [bt turn ps turns i k] := by
    rw [List.take_add_one, List.getElem?_eq_getElem (by rw [row_len]; exact hk)]
    unfold row
    rw [List.getElem_map, List.getElem_range]
    rfl
  rw [e]
  simp
theorem turns_at {i : Nat} (hi : i < turns.length) : idx turns (i : Int) = some (turns.getD i []) := by
  rw [idx_nat, List.getElem?_eq_getElem hi, gd _ _ hi]
theorem ps_at {k : Nat} (hk : k < ps.length) : idx ps (k : Int) = some (ps.getD k 0) := by
  rw [idx_nat, List.getElem?_eq_getElem hk, gd _ _ hk]
/-- all batches of one turn -/
theorem runs_j1 {i : Nat} (hi : i < turns.length) (hF : ∀ l ∈ turns, l.length ≤ 9223372036854775807) : law49_GateRuns.j1 turn ps turns i ps.length 0 (turn, ps, rest turn ps turns (i + 1)) = law49_GateRuns.j0 turn ps turns ((i : Int) - 1) (turn, ps, rest turn ps turns i) := by
  have h6 : ps.length ≤ 6 := hg.few
  have h0 : 0 ≤ turn := hg.t0
  have key : ∀ m k : Nat, k + m = ps.length → law49_GateRuns.j1 turn ps turns i ps.length k (turn, ps, (row turn ps turns i).take k ++ rest turn ps turns (i + 1)) = law49_GateRuns.j0 turn ps turns ((i : Int) - 1) (turn, ps, rest turn ps turns i) := by
    intro m
    induction m with
    | zero =>
      intro k hk
      rw [law49_GateRuns.j1_eq, lt_false (by omega), cond_false, wr_in (by omega) (by omega), rest_step turn ps turns hi, List.take_of_length_le (by rw [row_len]; omega)]
    | succ m ih =>
      intro k hk
      have hlt : k < ps.length := by omega
      have hadd := runs_add turn ps turns hg ht hn hi hlt
      have ih' := ih (k + 1) (by omega)
      have hw : IntKind.i64.wrap (turn + (i : Int)) = turn + (i : Int) := wr_in (by omega) (by omega)
      rw [law49_GateRuns.j1_eq, lt_true hlt, cond_true, turns_at turn ps turns hg ht hn hi, ps_at turn ps turns hg ht hn hlt, wr_succ hlt (by omega), hw]
      simp only [Option.bind_some]
      have hlen : (turns.getD i []).length ≤ 9223372036854775807 := by
        rw [gd _ _ hi]
        exact hF _ (List.getElem_mem hi)
      have fin : ((gate_Add.f (turn, ps, (row turn ps turns i).take k ++ rest turn ps turns (i + 1)) (bt turn ps turns i k)).bind fun r => bif r.2 != 0 then some false else law49_GateRuns.j1 turn ps turns i ps.length ((k + 1 : Nat) : Int) r.1) = law49_GateRuns.j0 turn ps turns ((i : Int) - 1) (turn, ps, rest turn ps turns i) := by
        rw [hadd]
        exact ih'
      unfold bt cm at fin
      by_cases hk2 : k < (turns.getD i []).length
      · rw [lt_true hk2, cond_true, idx_nat, List.getElem?_eq_getElem hk2]
        rw [List.getElem?_eq_getElem hk2] at fin
        simp only [Option.bind_some] at fin ⊢
        rw [rbat_any, Option.bind_some]
        cases hx : batOK (turns.getD i [])[k] with
        | false =>
          rw [hx, Bool.false_and, cond_false] at fin
          exact fin
        | true =>
          rw [hx, Bool.true_and] at fin
          have hbx := (batOK_iff _).1 hx
          simp only [cond_true]
          cases hy : (turns.getD i [])[k].1 == ps.getD k 0 with
          | false =>
            rw [hy, cond_false] at fin
            exact fin
          | true =>
            rw [hy, cond_true] at fin
            rw [nores_eq _ (Nat.le_trans hbx.n (by decide))]
            exact fin
      · rw [lt_false (by omega), cond_false]
        rw [List.getElem?_eq_none (by omega)] at fin
        exact fin
  exact key ps.length 0 (by omega)
theorem runs_j0 (hF : ∀ l ∈ turns, l.length ≤ 9223372036854775807) : ∀ i : Nat, i ≤ turns.length → law49_GateRuns.j0 turn ps turns ((i : Int) - 1) (turn, ps, rest turn ps turns i) = law49_GateRuns.j2 turn ps turns turns.length 0 (turn, ps, rest turn ps turns 0) := by
  intro i
  induction i with
  | zero =>
    intro _
    rw [law49_GateRuns.j0_eq, decide_eq_false (by omega), cond_false]
  | succ i ih =>
    intro hi
    rw [show (((i + 1 : Nat) : Int) - 1) = (i : Int) by omega, law49_GateRuns.j0_eq, decide_eq_true (by omega : (i : Int) ≥ 0), cond_true, runs_j1 turn ps turns hg ht hn (by omega) hF]
    exact ih (by omega)

/-! ### the turns, one behind another -/
theorem cur_row {i : Nat} (hi : i < turns.length) : curS (turn + i, ps, rest turn ps turns i) = row turn ps turns i ∧ (rest turn ps turns i).filter (fun b => b.2.1 != turn + i) = rest turn ps turns (i + 1) := by
  have h1 : ∀ b ∈ row turn ps turns i, b.2.1 = turn + i := fun b hb => by
    unfold row at hb
    obtain ⟨k, _, rfl⟩ := List.mem_map.1 hb
    rfl
  have h2 : ∀ b ∈ rest turn ps turns (i + 1), b.2.1 ≠ turn + i := fun b hb => by
    obtain ⟨i2, k2, h2, h3, h4, rfl⟩ := (rest_mem turn ps turns).1 hb
    show turn + (i2 : Int) ≠ turn + (i : Int)
    omega
  constructor
  · show (rest turn ps turns i).filter (fun b => b.2.1 == turn + i) = _
    rw [rest_step turn ps turns hi, List.filter_append, List.filter_eq_self.2 fun b hb => beq_iff_eq.2 (h1 b hb), List.filter_eq_nil_iff.2 fun b hb => by simpa using h2 b hb, List.append_nil]
  · rw [rest_step turn ps turns hi, List.filter_append, List.filter_eq_nil_iff.2 fun b hb => by simpa using h1 b hb, List.filter_eq_self.2 fun b hb => bne_iff_ne.2 (h2 b hb), List.nil_append]
theorem row_quiet {i : Nat} (g : GateT) : dropS (row turn ps turns i) g = g := by
  have h : ∀ b ∈ row turn ps turns i, resigns b = false := fun b hb => by
    unfold row at hb
    obtain ⟨k, _, rfl⟩ := List.mem_map.1 hb
    unfold resigns
    rw [List.any_eq_false]
    intro c hc
    have hc' : c ∈ cm ps turns i k := hc
    unfold cm at hc'
    cases hx : (turns.getD i [])[k]? with
    | none => rw [hx] at hc'; simp at hc'
    | some x =>
      rw [hx] at hc'
      simp only at hc'
      cases hy : batOK x && x.1 == ps.getD k 0 with
      | false => rw [hy] at hc'; simp at hc'
      | true =>
        rw [hy, cond_true] at hc'
        have := (List.mem_filter.1 hc').2
        simpa using this
  have key : ∀ (l : List BatchT) (g : GateT), (∀ b ∈ l, resigns b = false) → dropS l g = g := by
    intro l
    induction l with
    | nil => intro g _; rfl
    | cons b r ih =>
      intro g hl
      show dropS r (bif resigns b then withoutS g b.1 else g) = g
      rw [hl b (by simp)]
      exact ih g fun x hx => hl x (by simp [hx])
  exact key _ _ h
theorem miss_row {i : Nat} : missS ps (row turn ps turns i) = [] := by
  unfold missS
  rw [List.filter_eq_nil_iff]
  intro p hp
  rw [Bool.not_eq_true, Bool.not_eq_false', List.any_eq_true]
  obtain ⟨k, hk, rfl⟩ := List.getElem_of_mem hp
  refine ⟨bt turn ps turns i k, List.mem_map.2 ⟨k, List.mem_range.2 hk, rfl⟩, ?_⟩
  show (ps.getD k 0 == ps[k]) = true
  rw [gd _ _ hk]
  exact beq_self_eq_true _
theorem runs_open {i : Nat} (hi : i < turns.length) (hps : ps ≠ []) : openS (turn + i, ps, rest turn ps turns i) = true := by
  have hO := rest_ok turn ps turns hg ht hn i (turn + i) (by have := hg.t0; show 0 ≤ turn + (i : Int); have h0 : 0 ≤ turn := hg.t0; omega) (by omega) (Int.le_refl _)
  unfold openS missingS
  rw [(gateOK_iff _).2 hO, (cur_row turn ps turns hg ht hn hi).1]
  simp only [cond_true, Bool.true_and]
  rw [miss_row turn ps turns hg ht hn]
  simp
  exact List.length_pos_iff.2 hps
theorem runs_take {i : Nat} (hi : i < turns.length) (hps : ps ≠ []) : takeS (turn + i, ps, rest turn ps turns i) = ((turn + ((i + 1 : Nat) : Int), ps, rest turn ps turns (i + 1)), cmdsS (row turn ps turns i), 0) := by
  have h0 : 0 ≤ turn := hg.t0
  have hO := rest_ok turn ps turns hg ht hn i (turn + i) (by omega) (by omega) (Int.le_refl _)
  unfold takeS
  rw [(gateOK_iff _).2 hO, runs_open turn ps turns hg ht hn hi hps]
  simp only [Bool.not_true, cond_false]
  rw [beq_eq_false_iff_ne.2 (show turn + (i : Int) ≠ 1048576 by omega), cond_false, (cur_row turn ps turns hg ht hn hi).1, (cur_row turn ps turns hg ht hn hi).2, row_quiet turn ps turns hg ht hn]
  rw [show turn + (i : Int) + 1 = turn + ((i + 1 : Nat) : Int) by omega]
/-- the batches that are wanted of a turn -/
noncomputable def wantS (i : Nat) : List BatchT := ((List.range ps.length).filter (has ps turns i)).map fun k => (ps.getD k 0, 0, 0, cm ps turns i k)
omit hg ht hn in
theorem want_cmds (i : Nat) : cmdsS (wantS ps turns i) = cmdsS (row turn ps turns i) := by
  unfold cmdsS wantS row
  rw [List.flatMap_map, List.flatMap_map]
  have key : ∀ l : List Nat, (l.filter (has ps turns i)).flatMap (fun k => cm ps turns i k) = l.flatMap fun k => cm ps turns i k := by
    intro l
    induction l with
    | nil => rfl
    | cons k r ih =>
      rw [List.filter_cons, List.flatMap_cons]
      cases h : has ps turns i k with
      | true => rw [if_pos rfl, List.flatMap_cons, ih]
      | false =>
        rw [if_neg (by simp), ih]
        have : cm ps turns i k = [] := by
          unfold has at h
          unfold cm
          cases hx : (turns.getD i [])[k]? with
          | none => rfl
          | some x => rw [hx] at h; simp only at h ⊢; rw [h]; rfl
        rw [this, List.nil_append]
  exact key _
theorem want_ok {i : Nat} (hi : i < turns.length) : (wantS ps turns i).length ≤ 6 ∧ Asc (wantS ps turns i) ∧ ∀ b ∈ wantS ps turns i, BatL b := by
  have h6 : ps.length ≤ 6 := hg.few
  refine ⟨?_, ?_, fun b hb => ?_⟩
  · unfold wantS
    rw [List.length_map]
    refine Nat.le_trans (List.length_filter_le _ _) ?_
    rw [List.length_range]; exact h6
  · unfold wantS Asc
    rw [List.pairwise_map]
    refine List.Pairwise.imp_of_mem (fun {a b} ha hb hab => ?_) (List.pairwise_lt_range.filter _)
    have ha' := List.mem_range.1 (List.mem_filter.1 ha).1
    have hb' := List.mem_range.1 (List.mem_filter.1 hb).1
    show ps.getD a 0 ≤ ps.getD b 0
    rw [gd _ _ ha', gd _ _ hb']
    have := List.pairwise_iff_getElem.1 (show PlOK ps from hg.pl).2 a b ha' hb' hab
    omega
  · unfold wantS at hb
    obtain ⟨k, hk, rfl⟩ := List.mem_map.1 hb
    exact bt_L turn ps turns hg ht hn hi (List.mem_range.1 (List.mem_filter.1 hk).1)
theorem runs_j3 {i : Nat} (hi : i < turns.length) (hps : ps ≠ []) (hF : ∀ l ∈ turns, l.length ≤ 9223372036854775807) : law49_GateRuns.j3 turn ps turns i turns.length i ps.length 0 (turn + i, ps, rest turn ps turns i) [] = law49_GateRuns.j2 turn ps turns turns.length ((i + 1 : Nat) : Int) (turn + ((i + 1 : Nat) : Int), ps, rest turn ps turns (i + 1)) := by
  have h6 : ps.length ≤ 6 := hg.few
  have hlen : (turns.getD i []).length ≤ 9223372036854775807 := by
    rw [gd _ _ hi]
    exact hF _ (List.getElem_mem hi)
  have hL := rest_L turn ps turns hg ht hn i (turn + i)
  obtain ⟨w1, w2, w3⟩ := want_ok turn ps turns hg ht hn hi
  have hlr : (List.range ps.length).length = ps.length := List.length_range
  have main := filter_loop (List.range ps.length) (fun acc k => law49_GateRuns.j3 turn ps turns i turns.length i ps.length k (turn + i, ps, rest turn ps turns i) acc) (has ps turns i) (fun k => ((ps.getD k 0, 0, 0, cm ps turns i k) : BatchT))
    (fun acc => law49_GateRuns.j3 turn ps turns i turns.length i ps.length ps.length (turn + i, ps, rest turn ps turns i) acc) (fun acc k hk ha => by
      rw [hlr] at hk
      rw [List.getElem_range, law49_GateRuns.j3_eq, lt_true hk, cond_true, turns_at turn ps turns hg ht hn hi, ps_at turn ps turns hg ht hn hk, wr_succ hk (by omega)]
      simp only [Option.bind_some]
      unfold has cm
      by_cases hk2 : k < (turns.getD i []).length
      · rw [lt_true hk2, cond_true, idx_nat, List.getElem?_eq_getElem hk2]
        simp only [Option.bind_some]
        rw [rbat_any, Option.bind_some]
        cases hx : batOK (turns.getD i [])[k] with
        | false => rfl
        | true =>
          have hbx := (batOK_iff _).1 hx
          simp only [cond_true, Bool.true_and]
          cases hy : (turns.getD i [])[k].1 == ps.getD k 0 with
          | false => rfl
          | true =>
            simp only [cond_true]
            have hr : decide ((acc.length + 1) * 48 ≤ 140737488355328) = true := decide_eq_true (by omega)
            rw [nores_eq _ (Nat.le_trans hbx.n (by decide)), Option.bind_some]
            simp only [List.length_cons, List.length_nil, Nat.zero_add, hr, cond_true]
      · rw [lt_false (by omega), cond_false, List.getElem?_eq_none (by omega)]
        rfl) (fun acc ha => by rw [hlr])
  refine main.trans ?_
  show law49_GateRuns.j3 turn ps turns i turns.length i ps.length ps.length (turn + i, ps, rest turn ps turns i) (wantS ps turns i) = _
  have hC := take_cmds hL
  rw [runs_take turn ps turns hg ht hn hi hps] at hC
  rw [law49_GateRuns.j3_eq, lt_false (Nat.le_refl _), cond_false, open_eq _ hL, take_eq _ hL, rmerge_eq _ (by omega) w2 w3, runs_open turn ps turns hg ht hn hi hps, runs_take turn ps turns hg ht hn hi hps, wr_succ hi (by omega)]
  simp only [Option.bind_some, Bool.not_true, cond_false]
  rw [want_cmds turn ps turns i, sameCmds_eq _ _ hC.1 hC.2, decide_eq_true rfl]
  rfl
theorem runs_j2 (hps : ps ≠ []) (hF : ∀ l ∈ turns, l.length ≤ 9223372036854775807) : ∀ m i : Nat, i + m = turns.length → law49_GateRuns.j2 turn ps turns turns.length i (turn + i, ps, rest turn ps turns i) = some true := by
  intro m
  induction m with
  | zero =>
    intro i hi
    have h0 : 0 ≤ turn := hg.t0
    have hL := rest_L turn ps turns hg ht hn i (turn + i)
    have hO := rest_ok turn ps turns hg ht hn i (turn + i) (by omega) (by omega) (Int.le_refl _)
    have hr := rest_end turn ps turns (i := i) (by omega)
    rw [law49_GateRuns.j2_eq, lt_false (by omega), cond_false, open_eq _ hL]
    rw [hr] at hO ⊢
    have hop : openS (turn + i, ps, []) = false := by
      unfold openS missingS
      rw [(gateOK_iff _).2 hO]
      cases ps with
      | nil => exact absurd rfl hps
      | cons p r =>
        simp [missS, curS]
    rw [hop, Option.bind_some, wr_in (by omega) (by omega), alive_eq]
    simp only [Bool.not_false, cond_true]
    rw [show turn + (turns.length : Int) = turn + (i : Int) by omega, beq_self_eq_true]
    rfl
  | succ m ih =>
    intro i hi
    rw [law49_GateRuns.j2_eq, lt_true (by omega), cond_true, runs_j3 turn ps turns hg ht hn (by omega) hps hF]
    exact ih (i + 1) (by omega)
end
theorem runs (turn : Int) (ps : List Int) (turns : List (List BatchT)) (hps : ps.length * 8 ≤ 140737488355328) (hF : Fits (.slice (.slice cBatch)) turns) : law49_GateRuns.f turn ps turns = some true := by
  rw [law49_GateRuns.f_eq, new_any _ _ hps, Option.bind_some, alive_eq]
  unfold newS
  cases hok : gateOK (turn, ps, []) with
  | false => rfl
  | true =>
    have hg := (gateOK_iff _).1 hok
    simp only [cond_true]
    by_cases ht : turn > 1048566
    · rw [decide_eq_true ht]; rfl
    · by_cases hn : ((turns.length : Nat) : Int) > 6
      · rw [decide_eq_false ht, decide_eq_true hn]; rfl
      · rw [decide_eq_false ht, decide_eq_false hn, isEmpty_len]
        cases hp : ps.isEmpty with
        | true => rfl
        | false =>
          have hps' : ps ≠ [] := fun h => by rw [h] at hp; cases hp
          have hn' : turns.length ≤ 6 := by omega
          have hF' : ∀ l ∈ turns, l.length ≤ 9223372036854775807 := fun l hl => (hF.2 l hl).1
          show law49_GateRuns.j0 turn ps turns (IntKind.i64.wrap ((turns.length : Int) - 1)) (turn, ps, []) = some true
          rw [wr_in (by omega) (by omega)]
          have h1 := runs_j0 turn ps turns hg (by omega) hn' hF' turns.length (Nat.le_refl _)
          rw [rest_end turn ps turns (Nat.le_refl _)] at h1
          refine h1.trans ?_
          have h2 := runs_j2 turn ps turns hg (by omega) hn' hps' hF' turns.length 0 (by omega)
          rw [show turn + ((0 : Nat) : Int) = turn by omega] at h2
          exact h2
/-- the players take up no more than the reach -/
theorem players_fit {turn : Int} {ps : List Int} {turns : List (List BatchT)} (hs : TopSz Try.prog [3, 22, 48] [.int .i64, .slice (.int .i64), .slice (.slice cBatch)] (turn, ps, turns, ())) : ps.length * 8 ≤ 140737488355328 := by
  have h : List.length (α := Int) ps * Try.prog.bytesOf 3 ≤ reachBytes := hs.1 3 (by kernel_rfl)
  have e : Try.prog.bytesOf 3 = 8 := by kernel_rfl
  rw [e] at h
  unfold reachBytes at h
  omega
end Go.Proofs.Ytdbhfpngfjlgjaa
