/- Plain functions, printed out of the program's own by a program of this work (wip/tools/shal.py). -/
import Derived.Test.YtkokdpnnmkphmaaSe
import Derived.Test.YtkokdpnnmkphmaaSx
namespace Go.Proofs.Ytkokdpnnmkphmaa.Pl
open Go Go.RowKit Sx Base Own Disk Bytes

def SectorsSure.j3 (kl1 : Int → Option (Bool)) (x7 : Int) : Option (Bool) :=
  (kl1 (IntKind.wrap .i64 (x7 + (1 : Int))))
def SectorsSure.j4 (kl2 : Int → Int → Option (Bool)) (x10 : Int) (x13 : Int) : Option (Bool) :=
  (kl2 x13 (IntKind.wrap .i64 (x10 + (1 : Int))))
def SectorsSure.j5 (kl2 : Int → Int → Option (Bool)) (x10 : Int) (l0 : List Int) (x7 : Int) (x9 : Int) (b14 : Bool) : Option (Bool) :=
  (if 0 ≤ x10 ∧ x10 < (List.length l0 : Int) then (if ((Int.tmod (IntKind.wrap .i64 (List.getD l0 (Int.toNat x10) 0)) (8 : Int)) == x7) = true then (if b14 = true then (SectorsSure.j4 kl2 x10 x10) else (SectorsSure.j4 kl2 x10 x9)) else (SectorsSure.j4 kl2 x10 x9)) else none)
def SectorsSure.l2 : Nat → (Int → Option (Bool)) → List Int → Int → Int → Int → Dk → Int → Int → Option (Bool)
  | 0, _, _, _, _, _, _, _, _ => none
  | k2 + 1, kl1, l0, x1, x7, a2, D6, x9, x10 =>
    (if (decide (x10 < (List.length l0 : Int))) = true then (if (decide (x10 < x1)) = true then (SectorsSure.j5 (SectorsSure.l2 k2 kl1 l0 x1 x7 a2 D6) x10 l0 x7 x9 true) else (if (decide ((IntKind.wrap .i64 (x10 - x1)) < (64 : Int))) = true then (if 0 ≤ (IntKind.wrap .u64 (IntKind.wrap .i64 (x10 - x1))) then (lt ((bitv .and .u64 (Int.fdiv a2 (2 ^ min (Int.toNat (IntKind.wrap .u64 (IntKind.wrap .i64 (x10 - x1)))) 64)) (1 : Int)) == (1 : Int)) fun y15 => (SectorsSure.j5 (SectorsSure.l2 k2 kl1 l0 x1 x7 a2 D6) x10 l0 x7 x9 y15)) else none) else (SectorsSure.j5 (SectorsSure.l2 k2 kl1 l0 x1 x7 a2 D6) x10 l0 x7 x9 false))) else (if (0 ≤ x7 ∧ x7 < (List.length D6.seen : Int)) then (lt (List.getD D6.seen (Int.toNat x7) []) fun l18 => (if ((List.length l18 : Int) != (64 : Int)) = true then none else (if (decide (x9 < (0 : Int))) = true then (if 0 ≤ (0 : Int) ∧ (0 : Int) < (List.length l18 : Int) then (if ((List.getD l18 (Int.toNat (0 : Int)) 0) != (0 : Int)) = true then none else (if 0 ≤ (1 : Int) ∧ (1 : Int) < (List.length l18 : Int) then (if ((List.getD l18 (Int.toNat (1 : Int)) 0) != (0 : Int)) = true then none else (if (decide (x9 ≥ (0 : Int))) = true then (if 0 ≤ (0 : Int) ∧ (0 : Int) < (List.length l18 : Int) then (if ((List.getD l18 (Int.toNat (0 : Int)) 0) != (IntKind.wrap .u8 x9)) = true then none else (if 0 ≤ (1 : Int) ∧ (1 : Int) < (List.length l18 : Int) then (if 0 ≤ x9 ∧ x9 < (List.length l0 : Int) then (if ((List.getD l18 (Int.toNat (1 : Int)) 0) != (IntKind.wrap .u8 (List.getD l0 (Int.toNat x9) 0))) = true then none else (SectorsSure.j3 kl1 x7)) else none) else none)) else none) else (SectorsSure.j3 kl1 x7))) else none)) else none) else (if (decide (x9 ≥ (0 : Int))) = true then (if 0 ≤ (0 : Int) ∧ (0 : Int) < (List.length l18 : Int) then (if ((List.getD l18 (Int.toNat (0 : Int)) 0) != (IntKind.wrap .u8 x9)) = true then none else (if 0 ≤ (1 : Int) ∧ (1 : Int) < (List.length l18 : Int) then (if 0 ≤ x9 ∧ x9 < (List.length l0 : Int) then (if ((List.getD l18 (Int.toNat (1 : Int)) 0) != (IntKind.wrap .u8 (List.getD l0 (Int.toNat x9) 0))) = true then none else (SectorsSure.j3 kl1 x7)) else none) else none)) else none) else (SectorsSure.j3 kl1 x7))))) else none))
def SectorsSure.l1 : Nat → List Int → Int → Int → Dk → Int → Option (Bool)
  | 0, _, _, _, _, _ => none
  | k1 + 1, l0, x1, a2, D6, x7 =>
    (if (decide (x7 < (8 : Int))) = true then (SectorsSure.l2 k1 (SectorsSure.l1 k1 l0 x1 a2 D6) l0 x1 x7 a2 D6 (-1 : Int) (0 : Int)) else (some (true)))
def SectorsSure.j2 (k : Nat) (a2 : Int) (l0 : List Int) (x1 : Int) (D4 : Dk) : Option (Bool) :=
  (if (List.length D4.waits ≤ 1000000 ∧ (-1 : Int) ≤ (-1 : Int)) then (lt (Dk.fail D4 a2 (-1 : Int)) fun D6 => (if ((List.length D6.waits : Int) != (0 : Int)) = true then none else (if ((List.length D4.waits : Int) != (IntKind.wrap .i64 ((List.length l0 : Int) - x1))) = true then none else (SectorsSure.l1 k l0 x1 a2 D6 (0 : Int))))) else none)
def SectorsSure.j1 (k : Nat) (l0 : List Int) (a2 : Int) (x1 : Int) : Option (Bool) :=
  (if List.length l0 ≤ 100000 then (lt (wrK l0 x1 (List.length l0)) fun D3 => (if (x1 == (List.length l0 : Int)) = true then (SectorsSure.j2 k a2 l0 x1 (Dk.sync D3)) else (SectorsSure.j2 k a2 l0 x1 D3))) else none)
def SectorsSure.f (k : Nat) (l0 : List Int) (a1 : Int) (a2 : Int) : Option (Bool) :=
  (if (decide ((List.length l0 : Int) > (100 : Int))) = true then (some (true)) else (if (decide ((List.length l0 : Int) > (0 : Int))) = true then (if (IntKind.wrap .i64 ((List.length l0 : Int) + (1 : Int))) ≠ 0 then (lt (Int.tmod (IntKind.wrap .i64 a1) (IntKind.wrap .i64 ((List.length l0 : Int) + (1 : Int)))) fun y19 => (SectorsSure.j1 k l0 a2 y19)) else none) else (SectorsSure.j1 k l0 a2 (0 : Int))))
end Go.Proofs.Ytkokdpnnmkphmaa.Pl
