/- Plain functions, printed out of the program's own by a program of this work (wip/tools/shal.py). -/
import Derived.Test.YtkokdpnnmkphmaaSe
import Derived.Test.YtkokdpnnmkphmaaSx
namespace Go.Proofs.Ytkokdpnnmkphmaa.Pl
open Go Go.RowKit Sx Base Own Disk Bytes

def SameBytes.l1 : Nat → List Int → List Int → Int → Option (Bool)
  | 0, _, _, _ => none
  | k1 + 1, l0, l1, x1 =>
    (if (decide (x1 < (List.length l0 : Int))) = true then (if 0 ≤ x1 ∧ x1 < (List.length l0 : Int) then (if 0 ≤ x1 ∧ x1 < (List.length l1 : Int) then (if ((List.getD l0 (Int.toNat x1) 0) != (List.getD l1 (Int.toNat x1) 0)) = true then (some (false)) else ((SameBytes.l1 k1 l0 l1) (IntKind.wrap .i64 (x1 + (1 : Int))))) else none) else none) else (some (true)))
def SameBytes.f (k : Nat) (l0 : List Int) (l1 : List Int) : Option (Bool) :=
  (if ((List.length l0 : Int) != (List.length l1 : Int)) = true then (some (false)) else (SameBytes.l1 k l0 l1 (0 : Int)))
def SectorsAll.l1 : Nat → Dk → Dk → Dk → Dk → Int → Option (Bool)
  | 0, _, _, _, _, _ => none
  | k1 + 1, D9, D7, D11, D6, x12 =>
    (if (decide (x12 < (8 : Int))) = true then (if (0 ≤ x12 ∧ x12 < (List.length D9.seen : Int)) then (lt (List.getD D9.seen (Int.toNat x12) []) fun l16 => (if (0 ≤ x12 ∧ x12 < (List.length D7.seen : Int)) then (lt (List.getD D7.seen (Int.toNat x12) []) fun l19 => (if (0 ≤ x12 ∧ x12 < (List.length D11.seen : Int)) then (lt (List.getD D11.seen (Int.toNat x12) []) fun l22 => (if (0 ≤ x12 ∧ x12 < (List.length D6.seen : Int)) then (lt (List.getD D6.seen (Int.toNat x12) []) fun l25 => (if ((List.length l16 : Int) != (64 : Int)) = true then none else (if ((List.length l22 : Int) != (64 : Int)) = true then none else (Option.bind (SameBytes.f k1 l16 l19) fun r26 => (if (!r26) = true then none else (Option.bind (SameBytes.f k1 l22 l25) fun r27 => (if (!r27) = true then none else ((SectorsAll.l1 k1 D9 D7 D11 D6) (IntKind.wrap .i64 (x12 + (1 : Int))))))))))) else none)) else none)) else none)) else none) else (some (true)))
def SectorsAll.j2 (k : Nat) (D6 : Dk) (D7 : Dk) : Option (Bool) :=
  (if (List.length D7.waits ≤ 1000000 ∧ (-1 : Int) ≤ (-1 : Int)) then (lt (Dk.fail D7 (18446744073709551615 : Int) (-1 : Int)) fun D9 => (if (List.length D7.waits ≤ 1000000 ∧ (-1 : Int) ≤ (-1 : Int)) then (lt (Dk.fail D7 (0 : Int) (-1 : Int)) fun D11 => (SectorsAll.l1 k D9 D7 D11 D6 (0 : Int))) else none)) else none)
def SectorsAll.j1 (k : Nat) (l0 : List Int) (x1 : Int) : Option (Bool) :=
  (if List.length l0 ≤ 100000 then (lt (wrK l0 x1 (List.length l0)) fun D3 => (if 0 ≤ x1 ∧ x1 ≤ (List.length l0 : Int) then (if List.length (List.take (Int.toNat x1) l0) ≤ 100000 then (lt (wrK (List.take (Int.toNat x1) l0) x1 (List.length (List.take (Int.toNat x1) l0))) fun D6 => (if (x1 == (List.length l0 : Int)) = true then (SectorsAll.j2 k D6 (Dk.sync D3)) else (SectorsAll.j2 k D6 D3))) else none) else none)) else none)
def SectorsAll.f (k : Nat) (l0 : List Int) (a1 : Int) : Option (Bool) :=
  (if (decide ((List.length l0 : Int) > (60 : Int))) = true then (some (true)) else (if (decide ((List.length l0 : Int) > (0 : Int))) = true then (if (IntKind.wrap .i64 ((List.length l0 : Int) + (1 : Int))) ≠ 0 then (lt (Int.tmod (IntKind.wrap .i64 a1) (IntKind.wrap .i64 ((List.length l0 : Int) + (1 : Int)))) fun y28 => (SectorsAll.j1 k l0 y28)) else none) else (SectorsAll.j1 k l0 (0 : Int))))
end Go.Proofs.Ytkokdpnnmkphmaa.Pl
