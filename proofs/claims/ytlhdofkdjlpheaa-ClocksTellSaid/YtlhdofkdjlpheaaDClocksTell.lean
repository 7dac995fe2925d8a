/- Plain functions, printed out of the program's own by a program of this work (wip/tools/shal.py). -/
import Derived.Test.YtlhdofkdjlpheaaClk
import Derived.Test.YtlhdofkdjlpheaaSx
namespace Go.Proofs.Ytlhdofkdjlpheaa.Pl
open Go Go.RowKit Sx Base Own

def there.f (x1000 : Int) (p1001 : List (Int × Int)) : Option (Bool × Int × List (Int × Int)) :=
  (some (true, x1000, p1001))
def Set.f (x1000 : Int) (p1001 : List (Int × Int)) (a1 : Int) (a2 : Int) : Option (Int × Int × List (Int × Int)) :=
  (Option.bind (there.f x1000 p1001) fun r1 => (if (!r1.1) = true then (some ((2 : Int), r1.2.1, r1.2.2)) else (if (decide (a2 < (1 : Int))) = true then (some ((1 : Int), r1.2.1, r1.2.2)) else (if (decide (a2 > (1073741824 : Int))) = true then (some ((1 : Int), r1.2.1, r1.2.2)) else (lt (upM r1.2.2 a1 (IntKind.wrap .i64 (r1.2.1 + a2))) fun p2 => (some ((0 : Int), r1.2.1, p2)))))))
def Tick.l1 : Nat → List Int → Int → List (Int × Int) → Int → Option (List Int × Int × List (Int × Int))
  | 0, _, _, _, _ => none
  | k1 + 1, l5, x2, p6, x7 =>
    (if (decide (x7 < (List.length l5 : Int))) = true then (if 0 ≤ x7 ∧ x7 < (List.length l5 : Int) then (lt (List.getD l5 (Int.toNat x7) 0) fun y10 => (lt (delM p6 y10) fun p11 => ((Tick.l1 k1 l5 x2) p11 (IntKind.wrap .i64 (x7 + (1 : Int)))))) else none) else (some (l5, x2, p6)))
def Tick.f (k : Nat) (x1000 : Int) (p1001 : List (Int × Int)) : Option (List Int × Int × List (Int × Int)) :=
  (Option.bind (there.f x1000 p1001) fun r1 => (if (!r1.1) = true then (some (([] : List Int), r1.2.1, r1.2.2)) else (lt (IntKind.wrap .i64 (r1.2.1 + (1 : Int))) fun x2 => (if List.length r1.2.2 ≤ 1000 then (lt (Clk.due x2 r1.2.2) fun l5 => (Tick.l1 k l5 x2 r1.2.2 (0 : Int))) else none))))
def Left.f (x1000 : Int) (p1001 : List (Int × Int)) (a1 : Int) : Option (Int × Bool × Int × List (Int × Int)) :=
  (Option.bind (there.f x1000 p1001) fun r1 => (if (!r1.1) = true then (some ((0 : Int), false, r1.2.1, r1.2.2)) else (lt (Option.getD (lkM r1.2.2 a1) (0 : Int)) fun y2 => (lt (Option.isSome (lkM r1.2.2 a1)) fun y3 => (if (!y3) = true then (some ((0 : Int), false, r1.2.1, r1.2.2)) else (lt (IntKind.wrap .i64 (y2 - r1.2.1)) fun y4 => (some (y4, true, r1.2.1, r1.2.2))))))))
def SameIds.l1 : Nat → List Int → List Int → Int → Option (Bool)
  | 0, _, _, _ => none
  | k1 + 1, l0, l1, x1 =>
    (if (decide (x1 < (List.length l0 : Int))) = true then (if 0 ≤ x1 ∧ x1 < (List.length l0 : Int) then (if 0 ≤ x1 ∧ x1 < (List.length l1 : Int) then (if ((List.getD l0 (Int.toNat x1) 0) != (List.getD l1 (Int.toNat x1) 0)) = true then (some (false)) else ((SameIds.l1 k1 l0 l1) (IntKind.wrap .i64 (x1 + (1 : Int))))) else none) else none) else (some (true)))
def SameIds.f (k : Nat) (l0 : List Int) (l1 : List Int) : Option (Bool) :=
  (if ((List.length l0 : Int) != (List.length l1 : Int)) = true then (some (false)) else (SameIds.l1 k l0 l1 (0 : Int)))
def Clear.f (x1000 : Int) (p1001 : List (Int × Int)) (a1 : Int) : Option (Int × Int × List (Int × Int)) :=
  (Option.bind (there.f x1000 p1001) fun r1 => (if (!r1.1) = true then (some ((2 : Int), r1.2.1, r1.2.2)) else (lt (Option.isSome (lkM r1.2.2 a1)) fun y2 => (if (!y2) = true then (some ((6 : Int), r1.2.1, r1.2.2)) else (lt (delM r1.2.2 a1) fun p3 => (some ((0 : Int), r1.2.1, p3)))))))
def alive.f (k : Nat)  : Option (Bool) :=
  (Option.bind (Set.f (0 : Int) ([] : List (Int × Int)) (7 : Int) (2 : Int)) fun r3 => (if (r3.1 != (0 : Int)) = true then (some (false)) else (Option.bind (Set.f r3.2.1 r3.2.2 (5 : Int) (2 : Int)) fun r4 => (if (r4.1 != (0 : Int)) = true then (some (false)) else (Option.bind (Set.f r4.2.1 r4.2.2 (6 : Int) (1 : Int)) fun r5 => (if (r5.1 != (0 : Int)) = true then (some (false)) else (Option.bind (Tick.f k r5.2.1 r5.2.2) fun r6 => (Option.bind (Left.f r6.2.1 r6.2.2 (7 : Int)) fun r9 => (Option.bind (Tick.f k r9.2.2.1 r9.2.2.2) fun r10 => (Option.bind (Left.f r10.2.1 r10.2.2 (7 : Int)) fun r13 => (Option.bind (SameIds.f k r6.1 [(6 : Int)]) fun r16 => (if (!r16) = true then (some (false)) else (if (r9.1 != (1 : Int)) = true then (some (false)) else (if (!r9.2.1) = true then (some (false)) else (Option.bind (SameIds.f k r10.1 [(5 : Int), (7 : Int)]) fun r19 => (if (!r19) = true then (some (false)) else (if r13.2.1 = true then (some (false)) else (Option.bind (Set.f r13.2.2.1 r13.2.2.2 (1 : Int) (3 : Int)) fun r20 => (if (r20.1 != (0 : Int)) = true then (some (false)) else (Option.bind (Set.f r20.2.1 r20.2.2 (1 : Int) (1 : Int)) fun r21 => (if (r21.1 != (0 : Int)) = true then (some (false)) else (Option.bind (Tick.f k r21.2.1 r21.2.2) fun r22 => (Option.bind (SameIds.f k r22.1 [(1 : Int)]) fun r27 => (if r27 = true then (Option.bind (Clear.f r22.2.1 r22.2.2 (1 : Int)) fun r28 => (if (r28.1 == (6 : Int)) = true then (Option.bind (Set.f r28.2.1 r28.2.2 (1 : Int) (0 : Int)) fun r29 => (if (r29.1 == (1 : Int)) = true then (Option.bind (Set.f r29.2.1 r29.2.2 (1 : Int) (1073741825 : Int)) fun r30 => (some ((r30.1 == (1 : Int))))) else (some (false)))) else (some (false)))) else (some (false))))))))))))))))))))))))))
def ClocksTell.j1 (kl3 : List Int → Int → Option (Bool)) (x27 : Int) (l34 : List Int) : Option (Bool) :=
  (kl3 l34 (IntKind.wrap .i64 (x27 + (1 : Int))))
def ClocksTell.l3 : Nat → (Int → List (Int × Int) → Int → Option (Bool)) → List Int → Int → Int → List (Int × Int) → List Int → Int → Option (Bool)
  | 0, _, _, _, _, _, _, _ => none
  | k3 + 1, kl2, l8, x20, x18, p19, l26, x27 =>
    (if (decide (x27 < (256 : Int))) = true then (if 0 ≤ x27 ∧ x27 < (List.length l8 : Int) then (if ((List.getD l8 (Int.toNat x27) 0) == x20) = true then (if (List.length l26 : Int) + (List.length [(IntKind.wrap .u32 ((IntKind.wrap .u32 x27) * (16777216 : Int)))] : Int) ≤ 17592186044416 then (ClocksTell.j1 (ClocksTell.l3 k3 kl2 l8 x20 x18 p19) x27 (l26 ++ [(IntKind.wrap .u32 ((IntKind.wrap .u32 x27) * (16777216 : Int)))])) else none) else (ClocksTell.j1 (ClocksTell.l3 k3 kl2 l8 x20 x18 p19) x27 l26)) else none) else (Option.bind (Tick.f k3 x18 p19) fun r39 => (Option.bind (SameIds.f k3 r39.1 l26) fun r42 => (if (!r42) = true then none else (kl2 r39.2.1 r39.2.2 (IntKind.wrap .i64 (x20 + (1 : Int))))))))
def ClocksTell.l2 : Nat → List Int → Int → List (Int × Int) → Int → Option (Bool)
  | 0, _, _, _, _ => none
  | k2 + 1, l8, x18, p19, x20 =>
    (if (decide (x20 ≤ (257 : Int))) = true then (ClocksTell.l3 k2 (ClocksTell.l2 k2 l8) l8 x20 x18 p19 ([] : List Int) (0 : Int)) else (some (true)))
def ClocksTell.l1 : Nat → List Int → List Int → List Int → Int → List (Int × Int) → Int → Option (Bool)
  | 0, _, _, _, _, _, _ => none
  | k1 + 1, l0, l1, l8, x9, p10, x11 =>
    (if (decide (x11 < (List.length l0 : Int))) = true then (if 0 ≤ x11 ∧ x11 < (List.length l1 : Int) then (lt (IntKind.wrap .i64 ((1 : Int) + (IntKind.wrap .i64 (List.getD l1 (Int.toNat x11) 0)))) fun y16 => (if 0 ≤ x11 ∧ x11 < (List.length l0 : Int) then (Option.bind (Set.f x9 p10 (IntKind.wrap .u32 ((IntKind.wrap .u32 (List.getD l0 (Int.toNat x11) 0)) * (16777216 : Int))) y16) fun r17 => (if (r17.1 != (0 : Int)) = true then none else (if 0 ≤ x11 ∧ x11 < (List.length l0 : Int) then (if 0 ≤ (List.getD l0 (Int.toNat x11) 0) ∧ (List.getD l0 (Int.toNat x11) 0) < (256 : Int) then ((ClocksTell.l1 k1 l0 l1) (List.set l8 (Int.toNat (List.getD l0 (Int.toNat x11) 0)) y16) r17.2.1 r17.2.2 (IntKind.wrap .i64 (x11 + (1 : Int)))) else none) else none))) else none)) else none) else (ClocksTell.l2 k1 l8 x9 p10 (1 : Int)))
def ClocksTell.f (k : Nat) (l0 : List Int) (l1 : List Int) : Option (Bool) :=
  (Option.bind (alive.f k) fun r1 => (if (!r1) = true then (Option.bind (alive.f k) fun r2 => (some (r2))) else (if (decide ((List.length l0 : Int) > (60 : Int))) = true then (Option.bind (alive.f k) fun r3 => (some (r3))) else (if ((List.length l0 : Int) != (List.length l1 : Int)) = true then (Option.bind (alive.f k) fun r4 => (some (r4))) else (ClocksTell.l1 k l0 l1 (List.replicate 256 (0 : Int)) (0 : Int) ([] : List (Int × Int)) (0 : Int))))))
end Go.Proofs.Ytlhdofkdjlpheaa.Pl
