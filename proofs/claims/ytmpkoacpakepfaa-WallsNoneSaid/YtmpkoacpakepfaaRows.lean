/-
  No cell of these rows narrows 'for every input' (looked for: loops, veiled, ifaces, maps, wideKeys, modest, calm, conditions, laid).
  DERIVED. THE GIVEN ROWS OF THIS SEAT. 8 by the template 'for every input the law returns true; each argument reads behind the call as it read before'; 0 by the template 'total and deterministic' (their statements: YtmpkoacpakepfaaTotals.lean).
  GIVEN WITH THE SEED: the statements are not yours to turn. If you find one false, say at which input.
  Laid BY PROGRAM, IN A SANDBOX (cutbox-rows.mjs): the forced cells as the released guide's own fill.sh prints them over the translation 4de94531ebb141f3… (all of the seat's roots in one cut). By AI agents, Wed Nov 11 2026. No macro, syntax, notation, axiom, sorry.
-/
import Derived.Test.YtmpkoacpakepfaaChecked
import GoSem.Claim
import GoSem.ClaimJoined
import GoSem.ClaimMapViews
import Derived.JoinedTies
import Derived.KernelRfl
namespace Go.Proofs.Ytmpkoacpakepfaa
/- THE CELL 'sum', in the pinned program and in every row, IS THE sha256 OF THE DUMP (.gsa) THAT YtmpkoacpakepfaaProg.lean LOADS. Nothing in Lean hashes anything: it is a label: what it is worth is what the hold of that sum in a sandbox is worth. -/
noncomputable def Try.pinned : Pinned := { name := "ytmpkoacpakepfaa", sum := "4de94531ebb141f353560bad9300f8b6a6cddfbe9ea0eba5a96357ae441e8b64", checked := Try.checked }
namespace Rows
def none {H : Type} : Left H := { results := [], args := [] }

/-- 'concordatlaw06.WallsNone': WHATEVER THE INPUT: true; the input reads as it did. -/
def wallsNoneSpec : ChangeSpec := { name := "wallsNone", fn := fun _ => fun
  | [d1, d2] => { results := [.lit (.bool true)], args := [d1, d2] }
  | _ => none }
def wallsNoneRow : OpenClaim := { program := "ytmpkoacpakepfaa", sum := "4de94531ebb141f353560bad9300f8b6a6cddfbe9ea0eba5a96357ae441e8b64", func := "concordat/concordatlaw06.WallsNone", spec := "wallsNone", unfollowed := true, recurses := true, apart := false }
def WallsNoneSaid : Prop := wallsNoneRow.holds Try.pinned (OpenSpec.ofChange wallsNoneSpec)

/-- ITS FALSE NEIGHBOUR: 'it returns false'. Refute it at one input. -/
def wallsNoneWrong : ChangeSpec := { name := "wallsNone", fn := fun _ => fun
  | [d1, d2] => { results := [.lit (.bool false)], args := [d1, d2] }
  | _ => none }
def WallsNoneWrongFalsely : Prop := wallsNoneRow.holds Try.pinned (OpenSpec.ofChange wallsNoneWrong)

/-- 'concordatlaw06.WallsSure': WHATEVER THE INPUT: true; the input reads as it did. -/
def wallsSureSpec : ChangeSpec := { name := "wallsSure", fn := fun _ => fun
  | [d1, d2] => { results := [.lit (.bool true)], args := [d1, d2] }
  | _ => none }
def wallsSureRow : OpenClaim := { program := "ytmpkoacpakepfaa", sum := "4de94531ebb141f353560bad9300f8b6a6cddfbe9ea0eba5a96357ae441e8b64", func := "concordat/concordatlaw06.WallsSure", spec := "wallsSure", unfollowed := true, recurses := true, apart := false }
def WallsSureSaid : Prop := wallsSureRow.holds Try.pinned (OpenSpec.ofChange wallsSureSpec)

/-- ITS FALSE NEIGHBOUR: 'it returns false'. Refute it at one input. -/
def wallsSureWrong : ChangeSpec := { name := "wallsSure", fn := fun _ => fun
  | [d1, d2] => { results := [.lit (.bool false)], args := [d1, d2] }
  | _ => none }
def WallsSureWrongFalsely : Prop := wallsSureRow.holds Try.pinned (OpenSpec.ofChange wallsSureWrong)

/-- 'concordatlaw06.WallsRoom': WHATEVER THE INPUT: true; the input reads as it did. -/
def wallsRoomSpec : ChangeSpec := { name := "wallsRoom", fn := fun _ => fun
  | [d1, d2] => { results := [.lit (.bool true)], args := [d1, d2] }
  | _ => none }
def wallsRoomRow : OpenClaim := { program := "ytmpkoacpakepfaa", sum := "4de94531ebb141f353560bad9300f8b6a6cddfbe9ea0eba5a96357ae441e8b64", func := "concordat/concordatlaw06.WallsRoom", spec := "wallsRoom", unfollowed := true, recurses := true, apart := false }
def WallsRoomSaid : Prop := wallsRoomRow.holds Try.pinned (OpenSpec.ofChange wallsRoomSpec)

/-- ITS FALSE NEIGHBOUR: 'it returns false'. Refute it at one input. -/
def wallsRoomWrong : ChangeSpec := { name := "wallsRoom", fn := fun _ => fun
  | [d1, d2] => { results := [.lit (.bool false)], args := [d1, d2] }
  | _ => none }
def WallsRoomWrongFalsely : Prop := wallsRoomRow.holds Try.pinned (OpenSpec.ofChange wallsRoomWrong)

/-- 'concordatlaw06.WallsOn': WHATEVER THE INPUT: true; the input reads as it did. -/
def wallsOnSpec : ChangeSpec := { name := "wallsOn", fn := fun _ => fun
  | [d1, d2] => { results := [.lit (.bool true)], args := [d1, d2] }
  | _ => none }
def wallsOnRow : OpenClaim := { program := "ytmpkoacpakepfaa", sum := "4de94531ebb141f353560bad9300f8b6a6cddfbe9ea0eba5a96357ae441e8b64", func := "concordat/concordatlaw06.WallsOn", spec := "wallsOn", unfollowed := true, recurses := true, apart := false }
def WallsOnSaid : Prop := wallsOnRow.holds Try.pinned (OpenSpec.ofChange wallsOnSpec)

/-- ITS FALSE NEIGHBOUR: 'it returns false'. Refute it at one input. -/
def wallsOnWrong : ChangeSpec := { name := "wallsOn", fn := fun _ => fun
  | [d1, d2] => { results := [.lit (.bool false)], args := [d1, d2] }
  | _ => none }
def WallsOnWrongFalsely : Prop := wallsOnRow.holds Try.pinned (OpenSpec.ofChange wallsOnWrong)

/-- 'concordatlaw06.WallsForced': WHATEVER THE INPUT: true; the input reads as it did. -/
def wallsForcedSpec : ChangeSpec := { name := "wallsForced", fn := fun _ => fun
  | [d1, d2, d3] => { results := [.lit (.bool true)], args := [d1, d2, d3] }
  | _ => none }
def wallsForcedRow : OpenClaim := { program := "ytmpkoacpakepfaa", sum := "4de94531ebb141f353560bad9300f8b6a6cddfbe9ea0eba5a96357ae441e8b64", func := "concordat/concordatlaw06.WallsForced", spec := "wallsForced", unfollowed := true, recurses := true, apart := false }
def WallsForcedSaid : Prop := wallsForcedRow.holds Try.pinned (OpenSpec.ofChange wallsForcedSpec)

/-- ITS FALSE NEIGHBOUR: 'it returns false'. Refute it at one input. -/
def wallsForcedWrong : ChangeSpec := { name := "wallsForced", fn := fun _ => fun
  | [d1, d2, d3] => { results := [.lit (.bool false)], args := [d1, d2, d3] }
  | _ => none }
def WallsForcedWrongFalsely : Prop := wallsForcedRow.holds Try.pinned (OpenSpec.ofChange wallsForcedWrong)

/-- 'concordatlaw06.WallsMany': WHATEVER THE INPUT: true; the input reads as it did. -/
def wallsManySpec : ChangeSpec := { name := "wallsMany", fn := fun _ => fun
  | [d1, d2] => { results := [.lit (.bool true)], args := [d1, d2] }
  | _ => none }
def wallsManyRow : OpenClaim := { program := "ytmpkoacpakepfaa", sum := "4de94531ebb141f353560bad9300f8b6a6cddfbe9ea0eba5a96357ae441e8b64", func := "concordat/concordatlaw06.WallsMany", spec := "wallsMany", unfollowed := true, recurses := true, apart := false }
def WallsManySaid : Prop := wallsManyRow.holds Try.pinned (OpenSpec.ofChange wallsManySpec)

/-- ITS FALSE NEIGHBOUR: 'it returns false'. Refute it at one input. -/
def wallsManyWrong : ChangeSpec := { name := "wallsMany", fn := fun _ => fun
  | [d1, d2] => { results := [.lit (.bool false)], args := [d1, d2] }
  | _ => none }
def WallsManyWrongFalsely : Prop := wallsManyRow.holds Try.pinned (OpenSpec.ofChange wallsManyWrong)

/-- 'concordatlaw06.WallsAll': WHATEVER THE INPUT: true; the input reads as it did. -/
def wallsAllSpec : ChangeSpec := { name := "wallsAll", fn := fun _ => fun
  | [d1, d2] => { results := [.lit (.bool true)], args := [d1, d2] }
  | _ => none }
def wallsAllRow : OpenClaim := { program := "ytmpkoacpakepfaa", sum := "4de94531ebb141f353560bad9300f8b6a6cddfbe9ea0eba5a96357ae441e8b64", func := "concordat/concordatlaw06.WallsAll", spec := "wallsAll", unfollowed := true, recurses := true, apart := false }
def WallsAllSaid : Prop := wallsAllRow.holds Try.pinned (OpenSpec.ofChange wallsAllSpec)

/-- ITS FALSE NEIGHBOUR: 'it returns false'. Refute it at one input. -/
def wallsAllWrong : ChangeSpec := { name := "wallsAll", fn := fun _ => fun
  | [d1, d2] => { results := [.lit (.bool false)], args := [d1, d2] }
  | _ => none }
def WallsAllWrongFalsely : Prop := wallsAllRow.holds Try.pinned (OpenSpec.ofChange wallsAllWrong)

/-- 'concordatlaw06.WallsClean': WHATEVER THE INPUT: true; the input reads as it did. -/
def wallsCleanSpec : ChangeSpec := { name := "wallsClean", fn := fun _ => fun
  | [d1, d2, d3] => { results := [.lit (.bool true)], args := [d1, d2, d3] }
  | _ => none }
def wallsCleanRow : OpenClaim := { program := "ytmpkoacpakepfaa", sum := "4de94531ebb141f353560bad9300f8b6a6cddfbe9ea0eba5a96357ae441e8b64", func := "concordat/concordatlaw06.WallsClean", spec := "wallsClean", unfollowed := true, recurses := true, apart := false }
def WallsCleanSaid : Prop := wallsCleanRow.holds Try.pinned (OpenSpec.ofChange wallsCleanSpec)

/-- ITS FALSE NEIGHBOUR: 'it returns false'. Refute it at one input. -/
def wallsCleanWrong : ChangeSpec := { name := "wallsClean", fn := fun _ => fun
  | [d1, d2, d3] => { results := [.lit (.bool false)], args := [d1, d2, d3] }
  | _ => none }
def WallsCleanWrongFalsely : Prop := wallsCleanRow.holds Try.pinned (OpenSpec.ofChange wallsCleanWrong)

/- THE SECOND FORM. 'bulk': how many values and letters a reading holds, each counted each time it is reached (what is shared counts as often as it is met; a slice's spare places count too). A statement '..UptoSaid' is the law's where the arguments, and the package variables that the reading takes, are together of bulk at most 1048576: NARROWER than '..Said'. Prove '..Said' where nothing that the law and all that it calls make is longer than what came in: it says more and counts as full. Else prove '..UptoSaid'. A law counts once. -/
mutual
def uptoBulk {H : Type} : DataW H → Nat
  | .lit (.string bytes) => bytes.length + 1
  | .lit _ => 1
  | .nil => 1
  | .ptr d => uptoBulk d + 1
  | .slice elems spare => uptoBulkAll elems + uptoBulkAll spare + 1
  | .agg parts => uptoBulkAll parts + 1
  | .iface _ d => uptoBulk d + 1
  | .map entries => uptoBulkEntries entries + 1
  | .held _ => 1
def uptoBulkAll {H : Type} : List (DataW H) → Nat
  | [] => 0
  | d :: r => uptoBulk d + uptoBulkAll r
def uptoBulkEntries {H : Type} : List (Lit × DataW H) → Nat
  | [] => 0
  | x :: r => uptoBulkEntry x + uptoBulkEntries r
def uptoBulkEntry {H : Type} : Lit × DataW H → Nat
  | (.string bytes, d) => bytes.length + uptoBulk d + 1
  | (_, d) => uptoBulk d + 1
 end
def uptoSmall : (H : Type) → List (DataW H) → Bool := fun _ ds => decide (uptoBulkAll ds ≤ 1048576)
def OpenSpec.upto (s : _root_.Go.ChangeSpec) : _root_.Go.OpenSpec := { _root_.Go.OpenSpec.ofChange s with cond := some uptoSmall }

/-- 'concordatlaw06.WallsNone', WHERE WHAT IT READS IS OF BULK AT MOST 1048576: true; the input reads as it did. -/
def wallsNoneUptoRow : OpenClaim := { program := "ytmpkoacpakepfaa", sum := "4de94531ebb141f353560bad9300f8b6a6cddfbe9ea0eba5a96357ae441e8b64", func := "concordat/concordatlaw06.WallsNone", spec := "wallsNone", unfollowed := true, recurses := true, apart := false, narrowed := true }
def WallsNoneUptoSaid : Prop := wallsNoneUptoRow.holds Try.pinned (OpenSpec.upto wallsNoneSpec)

/-- 'concordatlaw06.WallsSure', WHERE WHAT IT READS IS OF BULK AT MOST 1048576: true; the input reads as it did. -/
def wallsSureUptoRow : OpenClaim := { program := "ytmpkoacpakepfaa", sum := "4de94531ebb141f353560bad9300f8b6a6cddfbe9ea0eba5a96357ae441e8b64", func := "concordat/concordatlaw06.WallsSure", spec := "wallsSure", unfollowed := true, recurses := true, apart := false, narrowed := true }
def WallsSureUptoSaid : Prop := wallsSureUptoRow.holds Try.pinned (OpenSpec.upto wallsSureSpec)

/-- 'concordatlaw06.WallsRoom', WHERE WHAT IT READS IS OF BULK AT MOST 1048576: true; the input reads as it did. -/
def wallsRoomUptoRow : OpenClaim := { program := "ytmpkoacpakepfaa", sum := "4de94531ebb141f353560bad9300f8b6a6cddfbe9ea0eba5a96357ae441e8b64", func := "concordat/concordatlaw06.WallsRoom", spec := "wallsRoom", unfollowed := true, recurses := true, apart := false, narrowed := true }
def WallsRoomUptoSaid : Prop := wallsRoomUptoRow.holds Try.pinned (OpenSpec.upto wallsRoomSpec)

/-- 'concordatlaw06.WallsOn', WHERE WHAT IT READS IS OF BULK AT MOST 1048576: true; the input reads as it did. -/
def wallsOnUptoRow : OpenClaim := { program := "ytmpkoacpakepfaa", sum := "4de94531ebb141f353560bad9300f8b6a6cddfbe9ea0eba5a96357ae441e8b64", func := "concordat/concordatlaw06.WallsOn", spec := "wallsOn", unfollowed := true, recurses := true, apart := false, narrowed := true }
def WallsOnUptoSaid : Prop := wallsOnUptoRow.holds Try.pinned (OpenSpec.upto wallsOnSpec)

/-- 'concordatlaw06.WallsForced', WHERE WHAT IT READS IS OF BULK AT MOST 1048576: true; the input reads as it did. -/
def wallsForcedUptoRow : OpenClaim := { program := "ytmpkoacpakepfaa", sum := "4de94531ebb141f353560bad9300f8b6a6cddfbe9ea0eba5a96357ae441e8b64", func := "concordat/concordatlaw06.WallsForced", spec := "wallsForced", unfollowed := true, recurses := true, apart := false, narrowed := true }
def WallsForcedUptoSaid : Prop := wallsForcedUptoRow.holds Try.pinned (OpenSpec.upto wallsForcedSpec)

/-- 'concordatlaw06.WallsMany', WHERE WHAT IT READS IS OF BULK AT MOST 1048576: true; the input reads as it did. -/
def wallsManyUptoRow : OpenClaim := { program := "ytmpkoacpakepfaa", sum := "4de94531ebb141f353560bad9300f8b6a6cddfbe9ea0eba5a96357ae441e8b64", func := "concordat/concordatlaw06.WallsMany", spec := "wallsMany", unfollowed := true, recurses := true, apart := false, narrowed := true }
def WallsManyUptoSaid : Prop := wallsManyUptoRow.holds Try.pinned (OpenSpec.upto wallsManySpec)

/-- 'concordatlaw06.WallsAll', WHERE WHAT IT READS IS OF BULK AT MOST 1048576: true; the input reads as it did. -/
def wallsAllUptoRow : OpenClaim := { program := "ytmpkoacpakepfaa", sum := "4de94531ebb141f353560bad9300f8b6a6cddfbe9ea0eba5a96357ae441e8b64", func := "concordat/concordatlaw06.WallsAll", spec := "wallsAll", unfollowed := true, recurses := true, apart := false, narrowed := true }
def WallsAllUptoSaid : Prop := wallsAllUptoRow.holds Try.pinned (OpenSpec.upto wallsAllSpec)

/-- 'concordatlaw06.WallsClean', WHERE WHAT IT READS IS OF BULK AT MOST 1048576: true; the input reads as it did. -/
def wallsCleanUptoRow : OpenClaim := { program := "ytmpkoacpakepfaa", sum := "4de94531ebb141f353560bad9300f8b6a6cddfbe9ea0eba5a96357ae441e8b64", func := "concordat/concordatlaw06.WallsClean", spec := "wallsClean", unfollowed := true, recurses := true, apart := false, narrowed := true }
def WallsCleanUptoSaid : Prop := wallsCleanUptoRow.holds Try.pinned (OpenSpec.upto wallsCleanSpec)

end Rows
end Go.Proofs.Ytmpkoacpakepfaa
