/- Plain functions, printed out of the program's own by a program of this work (wip/tools/shal.py). -/
import Derived.Test.YtjdholnlbhkmeaaTw
import Derived.Test.YtjdholnlbhkmeaaSx
namespace Go.Proofs.Ytjdholnlbhkmeaa.Pl
open Go Go.RowKit Sx Base Own

def in.l1 : Nat → List Int → Int → Int → Option (Bool)
  | 0, _, _, _ => none
  | k1 + 1, l0, a1, x1 =>
    (if (decide (x1 < (List.length l0 : Int))) = true then (if 0 ≤ x1 ∧ x1 < (List.length l0 : Int) then (if ((List.getD l0 (Int.toNat x1) 0) == a1) = true then (some (true)) else ((in.l1 k1 l0 a1) (IntKind.wrap .i64 (x1 + (1 : Int))))) else none) else (some (false)))
def in.f (k : Nat) (l0 : List Int) (a1 : Int) : Option (Bool) :=
  (in.l1 k l0 a1 (0 : Int))
def comes.j1 (kl2 : List Int → Int → Option (Bool)) (x15 : Int) (l22 : List Int) : Option (Bool) :=
  (kl2 l22 (IntKind.wrap .i64 (x15 + (1 : Int))))
def comes.l2 : Nat → (List Int → Int → Option (Bool)) → List Int → Int → List Int → List Int → Int → Option (Bool)
  | 0, _, _, _, _, _, _ => none
  | k2 + 1, kl1, l0, x7, l1, l14, x15 =>
    (if (decide (x15 < (List.length l0 : Int))) = true then (if 0 ≤ x15 ∧ x15 < (List.length l0 : Int) then (if 0 ≤ x7 ∧ x7 < (List.length l14 : Int) then (if ((List.getD l0 (Int.toNat x15) 0) == (List.getD l14 (Int.toNat x7) 0)) = true then (if 0 ≤ x15 ∧ x15 < (List.length l1 : Int) then (Option.bind (in.f k2 l14 (List.getD l1 (Int.toNat x15) 0)) fun r23 => (if (!r23) = true then (if 0 ≤ x15 ∧ x15 < (List.length l1 : Int) then (if (List.length l14 : Int) + (List.length [(List.getD l1 (Int.toNat x15) 0)] : Int) ≤ 17592186044416 then (comes.j1 (comes.l2 k2 kl1 l0 x7 l1) x15 (l14 ++ [(List.getD l1 (Int.toNat x15) 0)])) else none) else none) else (comes.j1 (comes.l2 k2 kl1 l0 x7 l1) x15 l14))) else none) else (comes.j1 (comes.l2 k2 kl1 l0 x7 l1) x15 l14)) else none) else none) else (kl1 l14 (IntKind.wrap .i64 (x7 + (1 : Int)))))
def comes.l1 : Nat → List Int → List Int → Int → List Int → Int → Option (Bool)
  | 0, _, _, _, _, _ => none
  | k1 + 1, l0, l1, a3, l6, x7 =>
    (if (decide (x7 < (List.length l6 : Int))) = true then (comes.l2 k1 (comes.l1 k1 l0 l1 a3) l0 x7 l1 l6 (0 : Int)) else (Option.bind (in.f k1 l6 a3) fun r28 => (some (r28))))
def comes.f (k : Nat) (l0 : List Int) (l1 : List Int) (a2 : Int) (a3 : Int) : Option (Bool) :=
  (comes.l1 k l0 l1 a3 [a2] (0 : Int))
def Closes.f (k : Nat) (l0 : List Int) (l1 : List Int) (a2 : Int) (a3 : Int) : Option (Bool × Int) :=
  (if ((List.length l0 : Int) != (List.length l1 : Int)) = true then (some (false, (1 : Int))) else (Option.bind (comes.f k l0 l1 a3 a2) fun r1 => (some (r1, (0 : Int)))))
def RingsClose.f (k : Nat) (l0 : List Int) (l1 : List Int) (l2 : List Int) : Option (Bool) :=
  (if (decide ((List.length l0 : Int) > (60 : Int))) = true then (some (true)) else (if (decide ((List.length l1 : Int) > (60 : Int))) = true then (some (true)) else (if List.length l0 ≤ 100000000000 then (if List.length l1 ≤ 100000000000 then (if 0 ≤ (0 : Int) ∧ (0 : Int) < (List.length l2 : Int) then (if 0 ≤ (1 : Int) ∧ (1 : Int) < (List.length l2 : Int) then (if List.length l0 ≤ 1000 then (lt (if List.length l0 = List.length l1 then comesB (List.zip l0 l1) (List.getD l2 (Int.toNat (1 : Int)) 0) (List.getD l2 (Int.toNat (0 : Int)) 0) else false) fun y6 => (lt (if List.length l0 = List.length l1 then (0 : Int) else 1) fun y7 => (if 0 ≤ (0 : Int) ∧ (0 : Int) < (List.length l2 : Int) then (if 0 ≤ (1 : Int) ∧ (1 : Int) < (List.length l2 : Int) then (Option.bind (Closes.f k l0 l1 (List.getD l2 (Int.toNat (0 : Int)) 0) (List.getD l2 (Int.toNat (1 : Int)) 0)) fun r8 => (if (y6 == r8.1) = true then (if (y7 == r8.2) = true then (if List.length l0 ≤ 100000000000 then (if List.length l1 ≤ 100000000000 then (some (true)) else none) else none) else none) else none)) else none) else none))) else none) else none) else none) else none) else none)))
end Go.Proofs.Ytjdholnlbhkmeaa.Pl
