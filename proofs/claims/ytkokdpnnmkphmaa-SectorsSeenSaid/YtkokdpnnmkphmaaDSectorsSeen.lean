/- Plain functions, printed out of the program's own by a program of this work (wip/tools/shal.py). -/
import Derived.Test.YtkokdpnnmkphmaaSe
import Derived.Test.YtkokdpnnmkphmaaSx
namespace Go.Proofs.Ytkokdpnnmkphmaa.Pl
open Go Go.RowKit Sx Base Own Disk Bytes

def SectorsSeen.j1 (kl1 : Dk → Bool → Int → Option (Bool)) (x5 : Int) (D9 : Dk) (b10 : Bool) : Option (Bool) :=
  (kl1 D9 b10 (IntKind.wrap .i64 (x5 + (1 : Int))))
def SectorsSeen.j2 (kl1 : Dk → Bool → Int → Option (Bool)) (b4 : Bool) (x5 : Int) (l1 : List Int) (y2 : Int) (D11 : Dk) : Option (Bool) :=
  (if b4 = true then (SectorsSeen.j1 kl1 x5 D11 true) else (if 0 ≤ x5 ∧ x5 < (List.length l1 : Int) then (lt ((Int.tmod (IntKind.wrap .i64 (List.getD l1 (Int.toNat x5) 0)) (20 : Int)) == y2) fun y12 => (SectorsSeen.j1 kl1 x5 D11 y12)) else none))
def SectorsSeen.j3 (kl2 : Int → Option (Bool)) (x17 : Int) (l16 : List Int) (x19 : Int) : Option (Bool) :=
  (if 0 ≤ x17 ∧ x17 < (List.length l16 : Int) then (if ((List.getD l16 (Int.toNat x17) 0) != x19) = true then none else (kl2 (IntKind.wrap .i64 (x17 + (1 : Int))))) else none)
def SectorsSeen.l2 : Nat → Bool → List Int → List Int → Int → Option (Bool)
  | 0, _, _, _, _ => none
  | k2 + 1, b4, l0, l16, x17 =>
    (if (decide (x17 < (64 : Int))) = true then (if b4 = true then (if (decide (x17 < (List.length l0 : Int))) = true then (if 0 ≤ x17 ∧ x17 < (List.length l0 : Int) then (lt (List.getD l0 (Int.toNat x17) 0) fun y20 => (SectorsSeen.j3 (SectorsSeen.l2 k2 b4 l0 l16) x17 l16 y20)) else none) else (SectorsSeen.j3 (SectorsSeen.l2 k2 b4 l0 l16) x17 l16 (0 : Int))) else (SectorsSeen.j3 (SectorsSeen.l2 k2 b4 l0 l16) x17 l16 (0 : Int))) else (some (true)))
def SectorsSeen.l1 : Nat → List Int → List Int → Int → Dk → Bool → Int → Option (Bool)
  | 0, _, _, _, _, _, _ => none
  | k1 + 1, l1, l0, y2, D3, b4, x5 =>
    (if (decide (x5 < (List.length l1 : Int))) = true then (if 0 ≤ x5 ∧ x5 < (List.length l1 : Int) then (if (List.length D3.waits ≤ 1000000000 ∧ List.length l0 ≤ 1000000000) then (lt (Dk.writeR D3 (Int.tmod (IntKind.wrap .i64 (List.getD l1 (Int.toNat x5) 0)) (20 : Int)) l0) fun D13 => (if ((writeCode (List.length D3.seen) (Int.tmod (IntKind.wrap .i64 (List.getD l1 (Int.toNat x5) 0)) (20 : Int)) l0) != (0 : Int)) = true then none else (if 0 ≤ x5 ∧ x5 < (List.length l1 : Int) then (if ((Int.tmod (List.getD l1 (Int.toNat x5) 0) (3 : Int)) == (0 : Int)) = true then (SectorsSeen.j2 (SectorsSeen.l1 k1 l1 l0 y2) b4 x5 l1 y2 (Dk.sync D13)) else (SectorsSeen.j2 (SectorsSeen.l1 k1 l1 l0 y2) b4 x5 l1 y2 D13)) else none))) else none) else none) else (if (0 ≤ y2 ∧ y2 < (List.length D3.seen : Int)) then (lt (List.getD D3.seen (Int.toNat y2) []) fun l16 => (if ((List.length l16 : Int) != (64 : Int)) = true then none else (SectorsSeen.l2 k1 b4 l0 l16 (0 : Int)))) else none))
def SectorsSeen.f (k : Nat) (l0 : List Int) (l1 : List Int) (a2 : Int) : Option (Bool) :=
  (if (decide ((List.length l1 : Int) > (60 : Int))) = true then (some (true)) else (if (decide ((List.length l0 : Int) > (64 : Int))) = true then (some (true)) else (lt (Int.tmod (IntKind.wrap .i64 a2) (20 : Int)) fun y2 => (SectorsSeen.l1 k l1 l0 y2 (Disk.blank (Int.toNat (20 : Int))) false (0 : Int)))))
end Go.Proofs.Ytkokdpnnmkphmaa.Pl
