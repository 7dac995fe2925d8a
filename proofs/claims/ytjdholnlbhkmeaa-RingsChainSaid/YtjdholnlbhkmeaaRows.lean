/-
  No cell of these rows narrows 'for every input' (looked for: loops, veiled, ifaces, maps, wideKeys, modest, calm, conditions, laid).
  DERIVED. THE GIVEN ROWS OF THIS SEAT. 10 by the template 'for every input the law returns true; each argument reads behind the call as it read before'; 0 by the template 'total and deterministic' (their statements: YtjdholnlbhkmeaaTotals.lean).
  GIVEN WITH THE SEED: the statements are not yours to turn. If you find one false, say at which input.
  Laid BY PROGRAM, IN A SANDBOX (cutbox-rows.mjs): the forced cells as the released guide's own fill.sh prints them over the translation cb04ba223318cbb6… (all of the seat's roots in one cut). By AI agents, Wed Nov 11 2026. No macro, syntax, notation, axiom, sorry.
-/
import Derived.Test.YtjdholnlbhkmeaaChecked
import GoSem.Claim
import GoSem.ClaimJoined
import GoSem.ClaimMapViews
import Derived.JoinedTies
import Derived.KernelRfl
namespace Go.Proofs.Ytjdholnlbhkmeaa
/- THE CELL 'sum', in the pinned program and in every row, IS THE sha256 OF THE DUMP (.gsa) THAT YtjdholnlbhkmeaaProg.lean LOADS. Nothing in Lean hashes anything: it is a label: what it is worth is what the hold of that sum in a sandbox is worth. -/
noncomputable def Try.pinned : Pinned := { name := "ytjdholnlbhkmeaa", sum := "cb04ba223318cbb6e61abc1e33532a75d7d404317c16ee8b3d626b1cc90633f8", checked := Try.checked }
namespace Rows
def none {H : Type} : Left H := { results := [], args := [] }

/-- 'concordatlaw12.RingsClose': WHATEVER THE INPUT: true; the input reads as it did. -/
def ringsCloseSpec : ChangeSpec := { name := "ringsClose", fn := fun _ => fun
  | [d1, d2, d3] => { results := [.lit (.bool true)], args := [d1, d2, d3] }
  | _ => none }
def ringsCloseRow : OpenClaim := { program := "ytjdholnlbhkmeaa", sum := "cb04ba223318cbb6e61abc1e33532a75d7d404317c16ee8b3d626b1cc90633f8", func := "concordat/concordatlaw12.RingsClose", spec := "ringsClose", apart := false }
def RingsCloseSaid : Prop := ringsCloseRow.holds Try.pinned (OpenSpec.ofChange ringsCloseSpec)

/-- ITS FALSE NEIGHBOUR: 'it returns false'. Refute it at one input. -/
def ringsCloseWrong : ChangeSpec := { name := "ringsClose", fn := fun _ => fun
  | [d1, d2, d3] => { results := [.lit (.bool false)], args := [d1, d2, d3] }
  | _ => none }
def RingsCloseWrongFalsely : Prop := ringsCloseRow.holds Try.pinned (OpenSpec.ofChange ringsCloseWrong)

/-- 'concordatlaw12.RingsStand': WHATEVER THE INPUT: true; the input reads as it did. -/
def ringsStandSpec : ChangeSpec := { name := "ringsStand", fn := fun _ => fun
  | [d1, d2] => { results := [.lit (.bool true)], args := [d1, d2] }
  | _ => none }
def ringsStandRow : OpenClaim := { program := "ytjdholnlbhkmeaa", sum := "cb04ba223318cbb6e61abc1e33532a75d7d404317c16ee8b3d626b1cc90633f8", func := "concordat/concordatlaw12.RingsStand", spec := "ringsStand", unfollowed := true, recurses := true, apart := false }
def RingsStandSaid : Prop := ringsStandRow.holds Try.pinned (OpenSpec.ofChange ringsStandSpec)

/-- ITS FALSE NEIGHBOUR: 'it returns false'. Refute it at one input. -/
def ringsStandWrong : ChangeSpec := { name := "ringsStand", fn := fun _ => fun
  | [d1, d2] => { results := [.lit (.bool false)], args := [d1, d2] }
  | _ => none }
def RingsStandWrongFalsely : Prop := ringsStandRow.holds Try.pinned (OpenSpec.ofChange ringsStandWrong)

/-- 'concordatlaw12.RingsLeast': WHATEVER THE INPUT: true; the input reads as it did. -/
def ringsLeastSpec : ChangeSpec := { name := "ringsLeast", fn := fun _ => fun
  | [d1, d2] => { results := [.lit (.bool true)], args := [d1, d2] }
  | _ => none }
def ringsLeastRow : OpenClaim := { program := "ytjdholnlbhkmeaa", sum := "cb04ba223318cbb6e61abc1e33532a75d7d404317c16ee8b3d626b1cc90633f8", func := "concordat/concordatlaw12.RingsLeast", spec := "ringsLeast", unfollowed := true, recurses := true, apart := false }
def RingsLeastSaid : Prop := ringsLeastRow.holds Try.pinned (OpenSpec.ofChange ringsLeastSpec)

/-- ITS FALSE NEIGHBOUR: 'it returns false'. Refute it at one input. -/
def ringsLeastWrong : ChangeSpec := { name := "ringsLeast", fn := fun _ => fun
  | [d1, d2] => { results := [.lit (.bool false)], args := [d1, d2] }
  | _ => none }
def RingsLeastWrongFalsely : Prop := ringsLeastRow.holds Try.pinned (OpenSpec.ofChange ringsLeastWrong)

/-- 'concordatlaw12.RingsWay': WHATEVER THE INPUT: true; the input reads as it did. -/
def ringsWaySpec : ChangeSpec := { name := "ringsWay", fn := fun _ => fun
  | [d1, d2, d3] => { results := [.lit (.bool true)], args := [d1, d2, d3] }
  | _ => none }
def ringsWayRow : OpenClaim := { program := "ytjdholnlbhkmeaa", sum := "cb04ba223318cbb6e61abc1e33532a75d7d404317c16ee8b3d626b1cc90633f8", func := "concordat/concordatlaw12.RingsWay", spec := "ringsWay", unfollowed := true, recurses := true, apart := false }
def RingsWaySaid : Prop := ringsWayRow.holds Try.pinned (OpenSpec.ofChange ringsWaySpec)

/-- ITS FALSE NEIGHBOUR: 'it returns false'. Refute it at one input. -/
def ringsWayWrong : ChangeSpec := { name := "ringsWay", fn := fun _ => fun
  | [d1, d2, d3] => { results := [.lit (.bool false)], args := [d1, d2, d3] }
  | _ => none }
def RingsWayWrongFalsely : Prop := ringsWayRow.holds Try.pinned (OpenSpec.ofChange ringsWayWrong)

/-- 'concordatlaw12.RingsChain': WHATEVER THE INPUT: true; the input reads as it did. -/
def ringsChainSpec : ChangeSpec := { name := "ringsChain", fn := fun _ => fun
  | [d1, d2, d3] => { results := [.lit (.bool true)], args := [d1, d2, d3] }
  | _ => none }
def ringsChainRow : OpenClaim := { program := "ytjdholnlbhkmeaa", sum := "cb04ba223318cbb6e61abc1e33532a75d7d404317c16ee8b3d626b1cc90633f8", func := "concordat/concordatlaw12.RingsChain", spec := "ringsChain", unfollowed := true, recurses := true, apart := false }
def RingsChainSaid : Prop := ringsChainRow.holds Try.pinned (OpenSpec.ofChange ringsChainSpec)

/-- ITS FALSE NEIGHBOUR: 'it returns false'. Refute it at one input. -/
def ringsChainWrong : ChangeSpec := { name := "ringsChain", fn := fun _ => fun
  | [d1, d2, d3] => { results := [.lit (.bool false)], args := [d1, d2, d3] }
  | _ => none }
def RingsChainWrongFalsely : Prop := ringsChainRow.holds Try.pinned (OpenSpec.ofChange ringsChainWrong)

/-- 'concordatlaw12.RingsTurned': WHATEVER THE INPUT: true; the input reads as it did. -/
def ringsTurnedSpec : ChangeSpec := { name := "ringsTurned", fn := fun _ => fun
  | [d1, d2, d3] => { results := [.lit (.bool true)], args := [d1, d2, d3] }
  | _ => none }
def ringsTurnedRow : OpenClaim := { program := "ytjdholnlbhkmeaa", sum := "cb04ba223318cbb6e61abc1e33532a75d7d404317c16ee8b3d626b1cc90633f8", func := "concordat/concordatlaw12.RingsTurned", spec := "ringsTurned", unfollowed := true, recurses := true, apart := false }
def RingsTurnedSaid : Prop := ringsTurnedRow.holds Try.pinned (OpenSpec.ofChange ringsTurnedSpec)

/-- ITS FALSE NEIGHBOUR: 'it returns false'. Refute it at one input. -/
def ringsTurnedWrong : ChangeSpec := { name := "ringsTurned", fn := fun _ => fun
  | [d1, d2, d3] => { results := [.lit (.bool false)], args := [d1, d2, d3] }
  | _ => none }
def RingsTurnedWrongFalsely : Prop := ringsTurnedRow.holds Try.pinned (OpenSpec.ofChange ringsTurnedWrong)

/-- 'concordatlaw12.RingsMore': WHATEVER THE INPUT: true; the input reads as it did. -/
def ringsMoreSpec : ChangeSpec := { name := "ringsMore", fn := fun _ => fun
  | [d1, d2, d3] => { results := [.lit (.bool true)], args := [d1, d2, d3] }
  | _ => none }
def ringsMoreRow : OpenClaim := { program := "ytjdholnlbhkmeaa", sum := "cb04ba223318cbb6e61abc1e33532a75d7d404317c16ee8b3d626b1cc90633f8", func := "concordat/concordatlaw12.RingsMore", spec := "ringsMore", unfollowed := true, recurses := true, apart := false }
def RingsMoreSaid : Prop := ringsMoreRow.holds Try.pinned (OpenSpec.ofChange ringsMoreSpec)

/-- ITS FALSE NEIGHBOUR: 'it returns false'. Refute it at one input. -/
def ringsMoreWrong : ChangeSpec := { name := "ringsMore", fn := fun _ => fun
  | [d1, d2, d3] => { results := [.lit (.bool false)], args := [d1, d2, d3] }
  | _ => none }
def RingsMoreWrongFalsely : Prop := ringsMoreRow.holds Try.pinned (OpenSpec.ofChange ringsMoreWrong)

/-- 'concordatlaw12.RingsShift': WHATEVER THE INPUT: true; the input reads as it did. -/
def ringsShiftSpec : ChangeSpec := { name := "ringsShift", fn := fun _ => fun
  | [d1, d2, d3] => { results := [.lit (.bool true)], args := [d1, d2, d3] }
  | _ => none }
def ringsShiftRow : OpenClaim := { program := "ytjdholnlbhkmeaa", sum := "cb04ba223318cbb6e61abc1e33532a75d7d404317c16ee8b3d626b1cc90633f8", func := "concordat/concordatlaw12.RingsShift", spec := "ringsShift", unfollowed := true, recurses := true, apart := false }
def RingsShiftSaid : Prop := ringsShiftRow.holds Try.pinned (OpenSpec.ofChange ringsShiftSpec)

/-- ITS FALSE NEIGHBOUR: 'it returns false'. Refute it at one input. -/
def ringsShiftWrong : ChangeSpec := { name := "ringsShift", fn := fun _ => fun
  | [d1, d2, d3] => { results := [.lit (.bool false)], args := [d1, d2, d3] }
  | _ => none }
def RingsShiftWrongFalsely : Prop := ringsShiftRow.holds Try.pinned (OpenSpec.ofChange ringsShiftWrong)

/-- 'concordatlaw12.RingsBack': WHATEVER THE INPUT: true; the input reads as it did. -/
def ringsBackSpec : ChangeSpec := { name := "ringsBack", fn := fun _ => fun
  | [d1, d2, d3] => { results := [.lit (.bool true)], args := [d1, d2, d3] }
  | _ => none }
def ringsBackRow : OpenClaim := { program := "ytjdholnlbhkmeaa", sum := "cb04ba223318cbb6e61abc1e33532a75d7d404317c16ee8b3d626b1cc90633f8", func := "concordat/concordatlaw12.RingsBack", spec := "ringsBack", unfollowed := true, recurses := true, apart := false }
def RingsBackSaid : Prop := ringsBackRow.holds Try.pinned (OpenSpec.ofChange ringsBackSpec)

/-- ITS FALSE NEIGHBOUR: 'it returns false'. Refute it at one input. -/
def ringsBackWrong : ChangeSpec := { name := "ringsBack", fn := fun _ => fun
  | [d1, d2, d3] => { results := [.lit (.bool false)], args := [d1, d2, d3] }
  | _ => none }
def RingsBackWrongFalsely : Prop := ringsBackRow.holds Try.pinned (OpenSpec.ofChange ringsBackWrong)

/-- 'concordatlaw12.RingsTwo': WHATEVER THE INPUT: true; the input reads as it did. -/
def ringsTwoSpec : ChangeSpec := { name := "ringsTwo", fn := fun _ => fun
  | [d1, d2, d3] => { results := [.lit (.bool true)], args := [d1, d2, d3] }
  | _ => none }
def ringsTwoRow : OpenClaim := { program := "ytjdholnlbhkmeaa", sum := "cb04ba223318cbb6e61abc1e33532a75d7d404317c16ee8b3d626b1cc90633f8", func := "concordat/concordatlaw12.RingsTwo", spec := "ringsTwo", unfollowed := true, recurses := true, apart := false }
def RingsTwoSaid : Prop := ringsTwoRow.holds Try.pinned (OpenSpec.ofChange ringsTwoSpec)

/-- ITS FALSE NEIGHBOUR: 'it returns false'. Refute it at one input. -/
def ringsTwoWrong : ChangeSpec := { name := "ringsTwo", fn := fun _ => fun
  | [d1, d2, d3] => { results := [.lit (.bool false)], args := [d1, d2, d3] }
  | _ => none }
def RingsTwoWrongFalsely : Prop := ringsTwoRow.holds Try.pinned (OpenSpec.ofChange ringsTwoWrong)

/- THE SECOND FORM. 'bulk': how many values and letters a reading holds, each counted each time it is reached (what is shared counts as often as it is met; a slice's spare places count too). A statement '..UptoSaid' is the law's where the arguments, and the package variables that the reading takes, are together of bulk at most 1048576: NARROWER than '..Said'. Prove '..Said' where nothing that the law and all that it calls make is longer than what came in: it says more and counts as full. Else prove '..UptoSaid'. A law counts once. -/
mutual
def uptoBulk {H : Type} : DataW H → Nat
  | .lit (.string bytes) => bytes.length + 1
  | .lit _ => 1
  | .nil => 1
  | .ptr d => uptoBulk d + 1
  | .slice elems spare => uptoBulkAll elems + uptoBulkAll spare + 1
  | .agg parts => uptoBulkAll parts + 1
  | .iface _ d => uptoBulk d + 1
  | .map entries => uptoBulkEntries entries + 1
  | .held _ => 1
def uptoBulkAll {H : Type} : List (DataW H) → Nat
  | [] => 0
  | d :: r => uptoBulk d + uptoBulkAll r
def uptoBulkEntries {H : Type} : List (Lit × DataW H) → Nat
  | [] => 0
  | x :: r => uptoBulkEntry x + uptoBulkEntries r
def uptoBulkEntry {H : Type} : Lit × DataW H → Nat
  | (.string bytes, d) => bytes.length + uptoBulk d + 1
  | (_, d) => uptoBulk d + 1
 end
def uptoSmall : (H : Type) → List (DataW H) → Bool := fun _ ds => decide (uptoBulkAll ds ≤ 1048576)
def OpenSpec.upto (s : _root_.Go.ChangeSpec) : _root_.Go.OpenSpec := { _root_.Go.OpenSpec.ofChange s with cond := some uptoSmall }

/-- 'concordatlaw12.RingsClose', WHERE WHAT IT READS IS OF BULK AT MOST 1048576: true; the input reads as it did. -/
def ringsCloseUptoRow : OpenClaim := { program := "ytjdholnlbhkmeaa", sum := "cb04ba223318cbb6e61abc1e33532a75d7d404317c16ee8b3d626b1cc90633f8", func := "concordat/concordatlaw12.RingsClose", spec := "ringsClose", apart := false, narrowed := true }
def RingsCloseUptoSaid : Prop := ringsCloseUptoRow.holds Try.pinned (OpenSpec.upto ringsCloseSpec)

/-- 'concordatlaw12.RingsStand', WHERE WHAT IT READS IS OF BULK AT MOST 1048576: true; the input reads as it did. -/
def ringsStandUptoRow : OpenClaim := { program := "ytjdholnlbhkmeaa", sum := "cb04ba223318cbb6e61abc1e33532a75d7d404317c16ee8b3d626b1cc90633f8", func := "concordat/concordatlaw12.RingsStand", spec := "ringsStand", unfollowed := true, recurses := true, apart := false, narrowed := true }
def RingsStandUptoSaid : Prop := ringsStandUptoRow.holds Try.pinned (OpenSpec.upto ringsStandSpec)

/-- 'concordatlaw12.RingsLeast', WHERE WHAT IT READS IS OF BULK AT MOST 1048576: true; the input reads as it did. -/
def ringsLeastUptoRow : OpenClaim := { program := "ytjdholnlbhkmeaa", sum := "cb04ba223318cbb6e61abc1e33532a75d7d404317c16ee8b3d626b1cc90633f8", func := "concordat/concordatlaw12.RingsLeast", spec := "ringsLeast", unfollowed := true, recurses := true, apart := false, narrowed := true }
def RingsLeastUptoSaid : Prop := ringsLeastUptoRow.holds Try.pinned (OpenSpec.upto ringsLeastSpec)

/-- 'concordatlaw12.RingsWay', WHERE WHAT IT READS IS OF BULK AT MOST 1048576: true; the input reads as it did. -/
def ringsWayUptoRow : OpenClaim := { program := "ytjdholnlbhkmeaa", sum := "cb04ba223318cbb6e61abc1e33532a75d7d404317c16ee8b3d626b1cc90633f8", func := "concordat/concordatlaw12.RingsWay", spec := "ringsWay", unfollowed := true, recurses := true, apart := false, narrowed := true }
def RingsWayUptoSaid : Prop := ringsWayUptoRow.holds Try.pinned (OpenSpec.upto ringsWaySpec)

/-- 'concordatlaw12.RingsChain', WHERE WHAT IT READS IS OF BULK AT MOST 1048576: true; the input reads as it did. -/
def ringsChainUptoRow : OpenClaim := { program := "ytjdholnlbhkmeaa", sum := "cb04ba223318cbb6e61abc1e33532a75d7d404317c16ee8b3d626b1cc90633f8", func := "concordat/concordatlaw12.RingsChain", spec := "ringsChain", unfollowed := true, recurses := true, apart := false, narrowed := true }
def RingsChainUptoSaid : Prop := ringsChainUptoRow.holds Try.pinned (OpenSpec.upto ringsChainSpec)

/-- 'concordatlaw12.RingsTurned', WHERE WHAT IT READS IS OF BULK AT MOST 1048576: true; the input reads as it did. -/
def ringsTurnedUptoRow : OpenClaim := { program := "ytjdholnlbhkmeaa", sum := "cb04ba223318cbb6e61abc1e33532a75d7d404317c16ee8b3d626b1cc90633f8", func := "concordat/concordatlaw12.RingsTurned", spec := "ringsTurned", unfollowed := true, recurses := true, apart := false, narrowed := true }
def RingsTurnedUptoSaid : Prop := ringsTurnedUptoRow.holds Try.pinned (OpenSpec.upto ringsTurnedSpec)

/-- 'concordatlaw12.RingsMore', WHERE WHAT IT READS IS OF BULK AT MOST 1048576: true; the input reads as it did. -/
def ringsMoreUptoRow : OpenClaim := { program := "ytjdholnlbhkmeaa", sum := "cb04ba223318cbb6e61abc1e33532a75d7d404317c16ee8b3d626b1cc90633f8", func := "concordat/concordatlaw12.RingsMore", spec := "ringsMore", unfollowed := true, recurses := true, apart := false, narrowed := true }
def RingsMoreUptoSaid : Prop := ringsMoreUptoRow.holds Try.pinned (OpenSpec.upto ringsMoreSpec)

/-- 'concordatlaw12.RingsShift', WHERE WHAT IT READS IS OF BULK AT MOST 1048576: true; the input reads as it did. -/
def ringsShiftUptoRow : OpenClaim := { program := "ytjdholnlbhkmeaa", sum := "cb04ba223318cbb6e61abc1e33532a75d7d404317c16ee8b3d626b1cc90633f8", func := "concordat/concordatlaw12.RingsShift", spec := "ringsShift", unfollowed := true, recurses := true, apart := false, narrowed := true }
def RingsShiftUptoSaid : Prop := ringsShiftUptoRow.holds Try.pinned (OpenSpec.upto ringsShiftSpec)

/-- 'concordatlaw12.RingsBack', WHERE WHAT IT READS IS OF BULK AT MOST 1048576: true; the input reads as it did. -/
def ringsBackUptoRow : OpenClaim := { program := "ytjdholnlbhkmeaa", sum := "cb04ba223318cbb6e61abc1e33532a75d7d404317c16ee8b3d626b1cc90633f8", func := "concordat/concordatlaw12.RingsBack", spec := "ringsBack", unfollowed := true, recurses := true, apart := false, narrowed := true }
def RingsBackUptoSaid : Prop := ringsBackUptoRow.holds Try.pinned (OpenSpec.upto ringsBackSpec)

/-- 'concordatlaw12.RingsTwo', WHERE WHAT IT READS IS OF BULK AT MOST 1048576: true; the input reads as it did. -/
def ringsTwoUptoRow : OpenClaim := { program := "ytjdholnlbhkmeaa", sum := "cb04ba223318cbb6e61abc1e33532a75d7d404317c16ee8b3d626b1cc90633f8", func := "concordat/concordatlaw12.RingsTwo", spec := "ringsTwo", unfollowed := true, recurses := true, apart := false, narrowed := true }
def RingsTwoUptoSaid : Prop := ringsTwoUptoRow.holds Try.pinned (OpenSpec.upto ringsTwoSpec)

end Rows
end Go.Proofs.Ytjdholnlbhkmeaa
