/- Plain functions, printed out of the program's own by a program of this work (wip/tools/shal.py). -/
import Derived.Test.YtkokdpnnmkphmaaSe
import Derived.Test.YtkokdpnnmkphmaaSx
namespace Go.Proofs.Ytkokdpnnmkphmaa.Pl
open Go Go.RowKit Sx Base Own Disk Bytes

def SectorsSeen.j1 (kl1 : Dk → Bool → Int → Option (Bool)) (x4 : Int) (D8 : Dk) (b9 : Bool) : Option (Bool) :=
  (kl1 D8 b9 (IntKind.wrap .i64 (x4 + (1 : Int))))
def SectorsSeen.j2 (kl1 : Dk → Bool → Int → Option (Bool)) (b3 : Bool) (x4 : Int) (l1 : List Int) (a2 : Int) (D10 : Dk) : Option (Bool) :=
  (if b3 = true then (SectorsSeen.j1 kl1 x4 D10 true) else (if 0 ≤ x4 ∧ x4 < (List.length l1 : Int) then (SectorsSeen.j1 kl1 x4 D10 ((Int.tmod (IntKind.wrap .i64 (List.getD l1 (Int.toNat x4) 0)) (20 : Int)) == (Int.tmod (IntKind.wrap .i64 a2) (20 : Int)))) else none))
def SectorsSeen.j3 (kl2 : Int → Option (Bool)) (x13 : Int) (D2 : Dk) (a2 : Int) (x15 : Int) : Option (Bool) :=
  (if 0 ≤ x13 ∧ x13 < (List.length (List.getD D2.seen (Int.toNat (Int.tmod (IntKind.wrap .i64 a2) (20 : Int))) []) : Int) then (if ((List.getD (List.getD D2.seen (Int.toNat (Int.tmod (IntKind.wrap .i64 a2) (20 : Int))) []) (Int.toNat x13) 0) != x15) = true then none else (kl2 (IntKind.wrap .i64 (x13 + (1 : Int))))) else none)
def SectorsSeen.l2 : Nat → Bool → List Int → Dk → Int → Int → Option (Bool)
  | 0, _, _, _, _, _ => none
  | k2 + 1, b3, l0, D2, a2, x13 =>
    (if (decide (x13 < (64 : Int))) = true then (if b3 = true then (if (decide (x13 < (List.length l0 : Int))) = true then (if 0 ≤ x13 ∧ x13 < (List.length l0 : Int) then (SectorsSeen.j3 (SectorsSeen.l2 k2 b3 l0 D2 a2) x13 D2 a2 (List.getD l0 (Int.toNat x13) 0)) else none) else (SectorsSeen.j3 (SectorsSeen.l2 k2 b3 l0 D2 a2) x13 D2 a2 (0 : Int))) else (SectorsSeen.j3 (SectorsSeen.l2 k2 b3 l0 D2 a2) x13 D2 a2 (0 : Int))) else (some (true)))
def SectorsSeen.l1 : Nat → List Int → List Int → Int → Dk → Bool → Int → Option (Bool)
  | 0, _, _, _, _, _, _ => none
  | k1 + 1, l1, l0, a2, D2, b3, x4 =>
    (if (decide (x4 < (List.length l1 : Int))) = true then (if 0 ≤ x4 ∧ x4 < (List.length l1 : Int) then (if (List.length D2.waits ≤ 1000000000 ∧ List.length l0 ≤ 1000000000) then (if ((writeCode (List.length D2.seen) (Int.tmod (IntKind.wrap .i64 (List.getD l1 (Int.toNat x4) 0)) (20 : Int)) l0) != (0 : Int)) = true then none else (if 0 ≤ x4 ∧ x4 < (List.length l1 : Int) then (if ((Int.tmod (List.getD l1 (Int.toNat x4) 0) (3 : Int)) == (0 : Int)) = true then (SectorsSeen.j2 (SectorsSeen.l1 k1 l1 l0 a2) b3 x4 l1 a2 (Dk.sync (Dk.writeR D2 (Int.tmod (IntKind.wrap .i64 (List.getD l1 (Int.toNat x4) 0)) (20 : Int)) l0))) else (SectorsSeen.j2 (SectorsSeen.l1 k1 l1 l0 a2) b3 x4 l1 a2 (Dk.writeR D2 (Int.tmod (IntKind.wrap .i64 (List.getD l1 (Int.toNat x4) 0)) (20 : Int)) l0))) else none)) else none) else none) else (if (0 ≤ (Int.tmod (IntKind.wrap .i64 a2) (20 : Int)) ∧ (Int.tmod (IntKind.wrap .i64 a2) (20 : Int)) < (List.length D2.seen : Int)) then (if ((List.length (List.getD D2.seen (Int.toNat (Int.tmod (IntKind.wrap .i64 a2) (20 : Int))) []) : Int) != (64 : Int)) = true then none else (SectorsSeen.l2 k1 b3 l0 D2 a2 (0 : Int))) else none))
def SectorsSeen.f (k : Nat) (l0 : List Int) (l1 : List Int) (a2 : Int) : Option (Bool) :=
  (if (decide ((List.length l1 : Int) > (60 : Int))) = true then (some (true)) else (if (decide ((List.length l0 : Int) > (64 : Int))) = true then (some (true)) else (SectorsSeen.l1 k l1 l0 a2 (Disk.blank (Int.toNat (20 : Int))) false (0 : Int))))
end Go.Proofs.Ytkokdpnnmkphmaa.Pl
