/- Plain functions, printed out of the program's own by a program of this work (wip/tools/shal.py). -/
import Derived.Test.YticnjkdaccacaaaDoorFz
import Derived.Test.YticnjkdaccacaaaDoorSx
namespace Go.Proofs.YticnjkdaccacaaaDoor.Pl
open Go Go.RowKit Sx Base Own

def number.f (a0 : Int) : Option (List Int) :=
  (some ([(IntKind.wrap .u8 (IntKind.wrap .u32 (Int.tdiv a0 (16777216 : Int)))), (IntKind.wrap .u8 (IntKind.wrap .u32 (Int.tdiv a0 (65536 : Int)))), (IntKind.wrap .u8 (IntKind.wrap .u32 (Int.tdiv a0 (256 : Int)))), (IntKind.wrap .u8 a0)]))
def Put.l1 : Nat → List Int → Option (List Int × Int)
  | 0, _ => none
  | k1 + 1, l20 =>
    (if ((Int.tmod (List.length l20 : Int) (64 : Int)) != (0 : Int)) = true then (if (List.length l20 : Int) + (List.length [(0 : Int)] : Int) ≤ 17592186044416 then ((Put.l1 k1) (l20 ++ [(0 : Int)])) else none) else (some (l20, (0 : Int))))
def Put.f (k : Nat) (l0 : List Int) : Option (List Int × Int) :=
  (if (decide ((List.length l0 : Int) > (16384 : Int))) = true then (some (([] : List Int), (3 : Int))) else (Option.bind (number.f (IntKind.wrap .u32 (List.length l0 : Int))) fun r1 => (if (List.length ([] : List Int) : Int) + (List.length r1 : Int) ≤ 17592186044416 then (if (List.length (([] : List Int) ++ r1) : Int) + (List.length l0 : Int) ≤ 17592186044416 then (if (List.length ([] : List Int) : Int) + (List.length r1 : Int) ≤ 17592186044416 then (if List.length ((([] : List Int) ++ r1) ++ l0) ≤ 1000000000 then (lt (Crc.num (Crc.on 0#32 ((([] : List Int) ++ r1) ++ l0))) fun y10 => (Option.bind (number.f y10) fun r11 => (if (List.length (([] : List Int) ++ r1) : Int) + (List.length r11 : Int) ≤ 17592186044416 then (if (List.length ((([] : List Int) ++ r1) ++ r11) : Int) + (List.length l0 : Int) ≤ 17592186044416 then (Put.l1 k (((([] : List Int) ++ r1) ++ r11) ++ l0)) else none) else none))) else none) else none) else none) else none)))
def FramesPut.f (k : Nat) (l0 : List Int) : Option (Bool) :=
  (if (decide ((List.length l0 : Int) > (20000 : Int))) = true then (some (true)) else (if List.length l0 ≤ 100000000000 then (if List.length l0 ≤ 1000000000 then (lt (putR l0) fun l3 => (lt (putE l0) fun y4 => (if List.length l0 ≤ 1000000000 then (lt (putR l0) fun l7 => (lt (putE l0) fun y8 => (Option.bind (Put.f k l0) fun r11 => (if List.length l3 ≤ 1000000000 ∧ List.length r11.1 ≤ 1000000000 then (lt (decide (l3 = r11.1)) fun y14 => (if (!y14) = true then none else (if List.length l7 ≤ 1000000000 ∧ List.length r11.1 ≤ 1000000000 then (lt (decide (l7 = r11.1)) fun y15 => (if (!y15) = true then none else (if (y4 != r11.2) = true then none else (if List.length l0 ≤ 100000000000 then (if List.length l0 ≤ 100000000000 ∧ (0 : Int) < (1000000000 : Int) then (if List.length l3 ≤ 100000000000 ∧ ((0 : Int) + 1) < (1000000000 : Int) then (if List.length l7 ≤ 100000000000 ∧ (((0 : Int) + 1) + 1) < (1000000000 : Int) then (some (true)) else none) else none) else none) else none)))) else none))) else none)))) else none))) else none) else none))
end Go.Proofs.YticnjkdaccacaaaDoor.Pl
