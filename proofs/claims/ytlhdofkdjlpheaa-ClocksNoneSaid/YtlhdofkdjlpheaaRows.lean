/-
  No cell of these rows narrows 'for every input' (looked for: loops, veiled, ifaces, maps, wideKeys, modest, calm, conditions, laid).
  DERIVED. THE GIVEN ROWS OF THIS SEAT. 7 by the template 'for every input the law returns true; each argument reads behind the call as it read before'; 0 by the template 'total and deterministic' (their statements: YtlhdofkdjlpheaaTotals.lean).
  GIVEN WITH THE SEED: the statements are not yours to turn. If you find one false, say at which input.
  Laid BY PROGRAM, IN A SANDBOX (cutbox-rows.mjs): the forced cells as the released guide's own fill.sh prints them over the translation ec3204c9d29462e8… (all of the seat's roots in one cut). By AI agents, Wed Nov 11 2026. No macro, syntax, notation, axiom, sorry.
-/
import Derived.Test.YtlhdofkdjlpheaaChecked
import GoSem.Claim
import GoSem.ClaimJoined
import GoSem.ClaimMapViews
import Derived.JoinedTies
import Derived.KernelRfl
namespace Go.Proofs.Ytlhdofkdjlpheaa
/- THE CELL 'sum', in the pinned program and in every row, IS THE sha256 OF THE DUMP (.gsa) THAT YtlhdofkdjlpheaaProg.lean LOADS. Nothing in Lean hashes anything: it is a label: what it is worth is what the hold of that sum in a sandbox is worth. -/
noncomputable def Try.pinned : Pinned := { name := "ytlhdofkdjlpheaa", sum := "ec3204c9d29462e84e74491624ac88cc1969140bea803ee68c10540eb1311e41", checked := Try.checked }
namespace Rows
def none {H : Type} : Left H := { results := [], args := [] }

/-- 'concordatlaw09.ClocksNone': WHATEVER THE INPUT: true; the input reads as it did. -/
def clocksNoneSpec : ChangeSpec := { name := "clocksNone", fn := fun _ => fun
  | [d1, d2] => { results := [.lit (.bool true)], args := [d1, d2] }
  | _ => none }
def clocksNoneRow : OpenClaim := { program := "ytlhdofkdjlpheaa", sum := "ec3204c9d29462e84e74491624ac88cc1969140bea803ee68c10540eb1311e41", func := "concordat/concordatlaw09.ClocksNone", spec := "clocksNone", unfollowed := true, recurses := true, apart := false }
def ClocksNoneSaid : Prop := clocksNoneRow.holds Try.pinned (OpenSpec.ofChange clocksNoneSpec)

/-- ITS FALSE NEIGHBOUR: 'it returns false'. Refute it at one input. -/
def clocksNoneWrong : ChangeSpec := { name := "clocksNone", fn := fun _ => fun
  | [d1, d2] => { results := [.lit (.bool false)], args := [d1, d2] }
  | _ => none }
def ClocksNoneWrongFalsely : Prop := clocksNoneRow.holds Try.pinned (OpenSpec.ofChange clocksNoneWrong)

/-- 'concordatlaw09.ClocksTell': WHATEVER THE INPUT: true; the input reads as it did. -/
def clocksTellSpec : ChangeSpec := { name := "clocksTell", fn := fun _ => fun
  | [d1, d2] => { results := [.lit (.bool true)], args := [d1, d2] }
  | _ => none }
def clocksTellRow : OpenClaim := { program := "ytlhdofkdjlpheaa", sum := "ec3204c9d29462e84e74491624ac88cc1969140bea803ee68c10540eb1311e41", func := "concordat/concordatlaw09.ClocksTell", spec := "clocksTell", unfollowed := true, recurses := true, apart := false }
def ClocksTellSaid : Prop := clocksTellRow.holds Try.pinned (OpenSpec.ofChange clocksTellSpec)

/-- ITS FALSE NEIGHBOUR: 'it returns false'. Refute it at one input. -/
def clocksTellWrong : ChangeSpec := { name := "clocksTell", fn := fun _ => fun
  | [d1, d2] => { results := [.lit (.bool false)], args := [d1, d2] }
  | _ => none }
def ClocksTellWrongFalsely : Prop := clocksTellRow.holds Try.pinned (OpenSpec.ofChange clocksTellWrong)

/-- 'concordatlaw09.ClocksLeft': WHATEVER THE INPUT: true; the input reads as it did. -/
def clocksLeftSpec : ChangeSpec := { name := "clocksLeft", fn := fun _ => fun
  | [d1, d2, d3] => { results := [.lit (.bool true)], args := [d1, d2, d3] }
  | _ => none }
def clocksLeftRow : OpenClaim := { program := "ytlhdofkdjlpheaa", sum := "ec3204c9d29462e84e74491624ac88cc1969140bea803ee68c10540eb1311e41", func := "concordat/concordatlaw09.ClocksLeft", spec := "clocksLeft", unfollowed := true, recurses := true, apart := false }
def ClocksLeftSaid : Prop := clocksLeftRow.holds Try.pinned (OpenSpec.ofChange clocksLeftSpec)

/-- ITS FALSE NEIGHBOUR: 'it returns false'. Refute it at one input. -/
def clocksLeftWrong : ChangeSpec := { name := "clocksLeft", fn := fun _ => fun
  | [d1, d2, d3] => { results := [.lit (.bool false)], args := [d1, d2, d3] }
  | _ => none }
def ClocksLeftWrongFalsely : Prop := clocksLeftRow.holds Try.pinned (OpenSpec.ofChange clocksLeftWrong)

/-- 'concordatlaw09.ClocksFar': WHATEVER THE INPUT: true; the input reads as it did. -/
def clocksFarSpec : ChangeSpec := { name := "clocksFar", fn := fun _ => fun
  | [d1, d2, d3] => { results := [.lit (.bool true)], args := [d1, d2, d3] }
  | _ => none }
def clocksFarRow : OpenClaim := { program := "ytlhdofkdjlpheaa", sum := "ec3204c9d29462e84e74491624ac88cc1969140bea803ee68c10540eb1311e41", func := "concordat/concordatlaw09.ClocksFar", spec := "clocksFar", unfollowed := true, recurses := true, apart := false }
def ClocksFarSaid : Prop := clocksFarRow.holds Try.pinned (OpenSpec.ofChange clocksFarSpec)

/-- ITS FALSE NEIGHBOUR: 'it returns false'. Refute it at one input. -/
def clocksFarWrong : ChangeSpec := { name := "clocksFar", fn := fun _ => fun
  | [d1, d2, d3] => { results := [.lit (.bool false)], args := [d1, d2, d3] }
  | _ => none }
def ClocksFarWrongFalsely : Prop := clocksFarRow.holds Try.pinned (OpenSpec.ofChange clocksFarWrong)

/-- 'concordatlaw09.ClocksApart': WHATEVER THE INPUT: true; the input reads as it did. -/
def clocksApartSpec : ChangeSpec := { name := "clocksApart", fn := fun _ => fun
  | [d1, d2] => { results := [.lit (.bool true)], args := [d1, d2] }
  | _ => none }
def clocksApartRow : OpenClaim := { program := "ytlhdofkdjlpheaa", sum := "ec3204c9d29462e84e74491624ac88cc1969140bea803ee68c10540eb1311e41", func := "concordat/concordatlaw09.ClocksApart", spec := "clocksApart", unfollowed := true, recurses := true, apart := false }
def ClocksApartSaid : Prop := clocksApartRow.holds Try.pinned (OpenSpec.ofChange clocksApartSpec)

/-- ITS FALSE NEIGHBOUR: 'it returns false'. Refute it at one input. -/
def clocksApartWrong : ChangeSpec := { name := "clocksApart", fn := fun _ => fun
  | [d1, d2] => { results := [.lit (.bool false)], args := [d1, d2] }
  | _ => none }
def ClocksApartWrongFalsely : Prop := clocksApartRow.holds Try.pinned (OpenSpec.ofChange clocksApartWrong)

/-- 'concordatlaw09.ClocksOrder': WHATEVER THE INPUT: true; the input reads as it did. -/
def clocksOrderSpec : ChangeSpec := { name := "clocksOrder", fn := fun _ => fun
  | [d1, d2] => { results := [.lit (.bool true)], args := [d1, d2] }
  | _ => none }
def clocksOrderRow : OpenClaim := { program := "ytlhdofkdjlpheaa", sum := "ec3204c9d29462e84e74491624ac88cc1969140bea803ee68c10540eb1311e41", func := "concordat/concordatlaw09.ClocksOrder", spec := "clocksOrder", unfollowed := true, recurses := true, apart := false }
def ClocksOrderSaid : Prop := clocksOrderRow.holds Try.pinned (OpenSpec.ofChange clocksOrderSpec)

/-- ITS FALSE NEIGHBOUR: 'it returns false'. Refute it at one input. -/
def clocksOrderWrong : ChangeSpec := { name := "clocksOrder", fn := fun _ => fun
  | [d1, d2] => { results := [.lit (.bool false)], args := [d1, d2] }
  | _ => none }
def ClocksOrderWrongFalsely : Prop := clocksOrderRow.holds Try.pinned (OpenSpec.ofChange clocksOrderWrong)

/-- 'concordatlaw09.ClocksShift': WHATEVER THE INPUT: true; the input reads as it did. -/
def clocksShiftSpec : ChangeSpec := { name := "clocksShift", fn := fun _ => fun
  | [d1, d2] => { results := [.lit (.bool true)], args := [d1, d2] }
  | _ => none }
def clocksShiftRow : OpenClaim := { program := "ytlhdofkdjlpheaa", sum := "ec3204c9d29462e84e74491624ac88cc1969140bea803ee68c10540eb1311e41", func := "concordat/concordatlaw09.ClocksShift", spec := "clocksShift", unfollowed := true, recurses := true, apart := false }
def ClocksShiftSaid : Prop := clocksShiftRow.holds Try.pinned (OpenSpec.ofChange clocksShiftSpec)

/-- ITS FALSE NEIGHBOUR: 'it returns false'. Refute it at one input. -/
def clocksShiftWrong : ChangeSpec := { name := "clocksShift", fn := fun _ => fun
  | [d1, d2] => { results := [.lit (.bool false)], args := [d1, d2] }
  | _ => none }
def ClocksShiftWrongFalsely : Prop := clocksShiftRow.holds Try.pinned (OpenSpec.ofChange clocksShiftWrong)

/- THE SECOND FORM. 'bulk': how many values and letters a reading holds, each counted each time it is reached (what is shared counts as often as it is met; a slice's spare places count too). A statement '..UptoSaid' is the law's where the arguments, and the package variables that the reading takes, are together of bulk at most 1048576: NARROWER than '..Said'. Prove '..Said' where nothing that the law and all that it calls make is longer than what came in: it says more and counts as full. Else prove '..UptoSaid'. A law counts once. -/
mutual
def uptoBulk {H : Type} : DataW H → Nat
  | .lit (.string bytes) => bytes.length + 1
  | .lit _ => 1
  | .nil => 1
  | .ptr d => uptoBulk d + 1
  | .slice elems spare => uptoBulkAll elems + uptoBulkAll spare + 1
  | .agg parts => uptoBulkAll parts + 1
  | .iface _ d => uptoBulk d + 1
  | .map entries => uptoBulkEntries entries + 1
  | .held _ => 1
def uptoBulkAll {H : Type} : List (DataW H) → Nat
  | [] => 0
  | d :: r => uptoBulk d + uptoBulkAll r
def uptoBulkEntries {H : Type} : List (Lit × DataW H) → Nat
  | [] => 0
  | x :: r => uptoBulkEntry x + uptoBulkEntries r
def uptoBulkEntry {H : Type} : Lit × DataW H → Nat
  | (.string bytes, d) => bytes.length + uptoBulk d + 1
  | (_, d) => uptoBulk d + 1
 end
def uptoSmall : (H : Type) → List (DataW H) → Bool := fun _ ds => decide (uptoBulkAll ds ≤ 1048576)
def OpenSpec.upto (s : _root_.Go.ChangeSpec) : _root_.Go.OpenSpec := { _root_.Go.OpenSpec.ofChange s with cond := some uptoSmall }

/-- 'concordatlaw09.ClocksNone', WHERE WHAT IT READS IS OF BULK AT MOST 1048576: true; the input reads as it did. -/
def clocksNoneUptoRow : OpenClaim := { program := "ytlhdofkdjlpheaa", sum := "ec3204c9d29462e84e74491624ac88cc1969140bea803ee68c10540eb1311e41", func := "concordat/concordatlaw09.ClocksNone", spec := "clocksNone", unfollowed := true, recurses := true, apart := false, narrowed := true }
def ClocksNoneUptoSaid : Prop := clocksNoneUptoRow.holds Try.pinned (OpenSpec.upto clocksNoneSpec)

/-- 'concordatlaw09.ClocksTell', WHERE WHAT IT READS IS OF BULK AT MOST 1048576: true; the input reads as it did. -/
def clocksTellUptoRow : OpenClaim := { program := "ytlhdofkdjlpheaa", sum := "ec3204c9d29462e84e74491624ac88cc1969140bea803ee68c10540eb1311e41", func := "concordat/concordatlaw09.ClocksTell", spec := "clocksTell", unfollowed := true, recurses := true, apart := false, narrowed := true }
def ClocksTellUptoSaid : Prop := clocksTellUptoRow.holds Try.pinned (OpenSpec.upto clocksTellSpec)

/-- 'concordatlaw09.ClocksLeft', WHERE WHAT IT READS IS OF BULK AT MOST 1048576: true; the input reads as it did. -/
def clocksLeftUptoRow : OpenClaim := { program := "ytlhdofkdjlpheaa", sum := "ec3204c9d29462e84e74491624ac88cc1969140bea803ee68c10540eb1311e41", func := "concordat/concordatlaw09.ClocksLeft", spec := "clocksLeft", unfollowed := true, recurses := true, apart := false, narrowed := true }
def ClocksLeftUptoSaid : Prop := clocksLeftUptoRow.holds Try.pinned (OpenSpec.upto clocksLeftSpec)

/-- 'concordatlaw09.ClocksFar', WHERE WHAT IT READS IS OF BULK AT MOST 1048576: true; the input reads as it did. -/
def clocksFarUptoRow : OpenClaim := { program := "ytlhdofkdjlpheaa", sum := "ec3204c9d29462e84e74491624ac88cc1969140bea803ee68c10540eb1311e41", func := "concordat/concordatlaw09.ClocksFar", spec := "clocksFar", unfollowed := true, recurses := true, apart := false, narrowed := true }
def ClocksFarUptoSaid : Prop := clocksFarUptoRow.holds Try.pinned (OpenSpec.upto clocksFarSpec)

/-- 'concordatlaw09.ClocksApart', WHERE WHAT IT READS IS OF BULK AT MOST 1048576: true; the input reads as it did. -/
def clocksApartUptoRow : OpenClaim := { program := "ytlhdofkdjlpheaa", sum := "ec3204c9d29462e84e74491624ac88cc1969140bea803ee68c10540eb1311e41", func := "concordat/concordatlaw09.ClocksApart", spec := "clocksApart", unfollowed := true, recurses := true, apart := false, narrowed := true }
def ClocksApartUptoSaid : Prop := clocksApartUptoRow.holds Try.pinned (OpenSpec.upto clocksApartSpec)

/-- 'concordatlaw09.ClocksOrder', WHERE WHAT IT READS IS OF BULK AT MOST 1048576: true; the input reads as it did. -/
def clocksOrderUptoRow : OpenClaim := { program := "ytlhdofkdjlpheaa", sum := "ec3204c9d29462e84e74491624ac88cc1969140bea803ee68c10540eb1311e41", func := "concordat/concordatlaw09.ClocksOrder", spec := "clocksOrder", unfollowed := true, recurses := true, apart := false, narrowed := true }
def ClocksOrderUptoSaid : Prop := clocksOrderUptoRow.holds Try.pinned (OpenSpec.upto clocksOrderSpec)

/-- 'concordatlaw09.ClocksShift', WHERE WHAT IT READS IS OF BULK AT MOST 1048576: true; the input reads as it did. -/
def clocksShiftUptoRow : OpenClaim := { program := "ytlhdofkdjlpheaa", sum := "ec3204c9d29462e84e74491624ac88cc1969140bea803ee68c10540eb1311e41", func := "concordat/concordatlaw09.ClocksShift", spec := "clocksShift", unfollowed := true, recurses := true, apart := false, narrowed := true }
def ClocksShiftUptoSaid : Prop := clocksShiftUptoRow.holds Try.pinned (OpenSpec.upto clocksShiftSpec)

end Rows
end Go.Proofs.Ytlhdofkdjlpheaa
