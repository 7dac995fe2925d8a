/-
  No cell of these rows narrows 'for every input' (looked for: loops, veiled, ifaces, maps, wideKeys, modest, calm, conditions, laid).
  DERIVED. THE GIVEN ROWS OF THIS SEAT. 7 by the template 'for every input the law returns true; each argument reads behind the call as it read before'; 0 by the template 'total and deterministic' (their statements: YtdhogkenmpgklaaTotals.lean).
  GIVEN WITH THE SEED: the statements are not yours to turn. If you find one false, say at which input.
  Laid BY PROGRAM, IN A SANDBOX (cutbox-rows.mjs): the forced cells as the released guide's own fill.sh prints them over the translation fa6ba18c51e074ed… (all of the seat's roots in one cut). By AI agents, Wed Nov 11 2026. No macro, syntax, notation, axiom, sorry.
-/
import Derived.Test.YtdhogkenmpgklaaChecked
import GoSem.Claim
import GoSem.ClaimJoined
import GoSem.ClaimMapViews
import Derived.JoinedTies
import Derived.KernelRfl
namespace Go.Proofs.Ytdhogkenmpgklaa
/- THE CELL 'sum', in the pinned program and in every row, IS THE sha256 OF THE DUMP (.gsa) THAT YtdhogkenmpgklaaProg.lean LOADS. Nothing in Lean hashes anything: it is a label: what it is worth is what the hold of that sum in a sandbox is worth. -/
noncomputable def Try.pinned : Pinned := { name := "ytdhogkenmpgklaa", sum := "fa6ba18c51e074edbaaf5fb123dfaadad84f642b4edbe943584d0aed32fdce79", checked := Try.checked }
namespace Rows
def none {H : Type} : Left H := { results := [], args := [] }

/-- 'concordatlaw03.SumsOf': WHATEVER THE INPUT: true; the input reads as it did. -/
def sumsOfSpec : ChangeSpec := { name := "sumsOf", fn := fun _ => fun
  | [d1, d2] => { results := [.lit (.bool true)], args := [d1, d2] }
  | _ => none }
def sumsOfRow : OpenClaim := { program := "ytdhogkenmpgklaa", sum := "fa6ba18c51e074edbaaf5fb123dfaadad84f642b4edbe943584d0aed32fdce79", func := "concordat/concordatlaw03.SumsOf", spec := "sumsOf", unfollowed := true, recurses := true, apart := false }
def SumsOfSaid : Prop := sumsOfRow.holds Try.pinned (OpenSpec.ofChange sumsOfSpec)

/-- ITS FALSE NEIGHBOUR: 'it returns false'. Refute it at one input. -/
def sumsOfWrong : ChangeSpec := { name := "sumsOf", fn := fun _ => fun
  | [d1, d2] => { results := [.lit (.bool false)], args := [d1, d2] }
  | _ => none }
def SumsOfWrongFalsely : Prop := sumsOfRow.holds Try.pinned (OpenSpec.ofChange sumsOfWrong)

/-- 'concordatlaw03.SumsOn': WHATEVER THE INPUT: true; the input reads as it did. -/
def sumsOnSpec : ChangeSpec := { name := "sumsOn", fn := fun _ => fun
  | [d1, d2, d3] => { results := [.lit (.bool true)], args := [d1, d2, d3] }
  | _ => none }
def sumsOnRow : OpenClaim := { program := "ytdhogkenmpgklaa", sum := "fa6ba18c51e074edbaaf5fb123dfaadad84f642b4edbe943584d0aed32fdce79", func := "concordat/concordatlaw03.SumsOn", spec := "sumsOn", unfollowed := true, recurses := true, apart := false }
def SumsOnSaid : Prop := sumsOnRow.holds Try.pinned (OpenSpec.ofChange sumsOnSpec)

/-- ITS FALSE NEIGHBOUR: 'it returns false'. Refute it at one input. -/
def sumsOnWrong : ChangeSpec := { name := "sumsOn", fn := fun _ => fun
  | [d1, d2, d3] => { results := [.lit (.bool false)], args := [d1, d2, d3] }
  | _ => none }
def SumsOnWrongFalsely : Prop := sumsOnRow.holds Try.pinned (OpenSpec.ofChange sumsOnWrong)

/-- 'concordatlaw03.SumsTurned': WHATEVER THE INPUT: true; the input reads as it did. -/
def sumsTurnedSpec : ChangeSpec := { name := "sumsTurned", fn := fun _ => fun
  | [d1, d2, d3] => { results := [.lit (.bool true)], args := [d1, d2, d3] }
  | _ => none }
def sumsTurnedRow : OpenClaim := { program := "ytdhogkenmpgklaa", sum := "fa6ba18c51e074edbaaf5fb123dfaadad84f642b4edbe943584d0aed32fdce79", func := "concordat/concordatlaw03.SumsTurned", spec := "sumsTurned", unfollowed := true, recurses := true, apart := false }
def SumsTurnedSaid : Prop := sumsTurnedRow.holds Try.pinned (OpenSpec.ofChange sumsTurnedSpec)

/-- ITS FALSE NEIGHBOUR: 'it returns false'. Refute it at one input. -/
def sumsTurnedWrong : ChangeSpec := { name := "sumsTurned", fn := fun _ => fun
  | [d1, d2, d3] => { results := [.lit (.bool false)], args := [d1, d2, d3] }
  | _ => none }
def SumsTurnedWrongFalsely : Prop := sumsTurnedRow.holds Try.pinned (OpenSpec.ofChange sumsTurnedWrong)

/-- 'concordatlaw03.SumsApart': WHATEVER THE INPUT: true; the input reads as it did. -/
def sumsApartSpec : ChangeSpec := { name := "sumsApart", fn := fun _ => fun
  | [d1, d2, d3] => { results := [.lit (.bool true)], args := [d1, d2, d3] }
  | _ => none }
def sumsApartRow : OpenClaim := { program := "ytdhogkenmpgklaa", sum := "fa6ba18c51e074edbaaf5fb123dfaadad84f642b4edbe943584d0aed32fdce79", func := "concordat/concordatlaw03.SumsApart", spec := "sumsApart", unfollowed := true, recurses := true, apart := false }
def SumsApartSaid : Prop := sumsApartRow.holds Try.pinned (OpenSpec.ofChange sumsApartSpec)

/-- ITS FALSE NEIGHBOUR: 'it returns false'. Refute it at one input. -/
def sumsApartWrong : ChangeSpec := { name := "sumsApart", fn := fun _ => fun
  | [d1, d2, d3] => { results := [.lit (.bool false)], args := [d1, d2, d3] }
  | _ => none }
def SumsApartWrongFalsely : Prop := sumsApartRow.holds Try.pinned (OpenSpec.ofChange sumsApartWrong)

/-- 'concordatlaw03.SumsLong': WHATEVER THE INPUT: true; the input reads as it did. -/
def sumsLongSpec : ChangeSpec := { name := "sumsLong", fn := fun _ => fun
  | [d1, d2, d3] => { results := [.lit (.bool true)], args := [d1, d2, d3] }
  | _ => none }
def sumsLongRow : OpenClaim := { program := "ytdhogkenmpgklaa", sum := "fa6ba18c51e074edbaaf5fb123dfaadad84f642b4edbe943584d0aed32fdce79", func := "concordat/concordatlaw03.SumsLong", spec := "sumsLong", unfollowed := true, recurses := true, apart := false }
def SumsLongSaid : Prop := sumsLongRow.holds Try.pinned (OpenSpec.ofChange sumsLongSpec)

/-- ITS FALSE NEIGHBOUR: 'it returns false'. Refute it at one input. -/
def sumsLongWrong : ChangeSpec := { name := "sumsLong", fn := fun _ => fun
  | [d1, d2, d3] => { results := [.lit (.bool false)], args := [d1, d2, d3] }
  | _ => none }
def SumsLongWrongFalsely : Prop := sumsLongRow.holds Try.pinned (OpenSpec.ofChange sumsLongWrong)

/-- 'concordatlaw03.SumsSealed': WHATEVER THE INPUT: true; the input reads as it did. -/
def sumsSealedSpec : ChangeSpec := { name := "sumsSealed", fn := fun _ => fun
  | [d] => { results := [.lit (.bool true)], args := [d] }
  | _ => none }
def sumsSealedRow : OpenClaim := { program := "ytdhogkenmpgklaa", sum := "fa6ba18c51e074edbaaf5fb123dfaadad84f642b4edbe943584d0aed32fdce79", func := "concordat/concordatlaw03.SumsSealed", spec := "sumsSealed", unfollowed := true, recurses := true, apart := false }
def SumsSealedSaid : Prop := sumsSealedRow.holds Try.pinned (OpenSpec.ofChange sumsSealedSpec)

/-- ITS FALSE NEIGHBOUR: 'it returns false'. Refute it at one input. -/
def sumsSealedWrong : ChangeSpec := { name := "sumsSealed", fn := fun _ => fun
  | [d] => { results := [.lit (.bool false)], args := [d] }
  | _ => none }
def SumsSealedWrongFalsely : Prop := sumsSealedRow.holds Try.pinned (OpenSpec.ofChange sumsSealedWrong)

/-- 'concordatlaw03.SumsFour': WHATEVER THE INPUT: true; the input reads as it did. -/
def sumsFourSpec : ChangeSpec := { name := "sumsFour", fn := fun _ => fun
  | [d1, d2, d3] => { results := [.lit (.bool true)], args := [d1, d2, d3] }
  | _ => none }
def sumsFourRow : OpenClaim := { program := "ytdhogkenmpgklaa", sum := "fa6ba18c51e074edbaaf5fb123dfaadad84f642b4edbe943584d0aed32fdce79", func := "concordat/concordatlaw03.SumsFour", spec := "sumsFour", unfollowed := true, recurses := true, apart := false }
def SumsFourSaid : Prop := sumsFourRow.holds Try.pinned (OpenSpec.ofChange sumsFourSpec)

/-- ITS FALSE NEIGHBOUR: 'it returns false'. Refute it at one input. -/
def sumsFourWrong : ChangeSpec := { name := "sumsFour", fn := fun _ => fun
  | [d1, d2, d3] => { results := [.lit (.bool false)], args := [d1, d2, d3] }
  | _ => none }
def SumsFourWrongFalsely : Prop := sumsFourRow.holds Try.pinned (OpenSpec.ofChange sumsFourWrong)

/- THE SECOND FORM. 'bulk': how many values and letters a reading holds, each counted each time it is reached (what is shared counts as often as it is met; a slice's spare places count too). A statement '..UptoSaid' is the law's where the arguments, and the package variables that the reading takes, are together of bulk at most 1048576: NARROWER than '..Said'. Prove '..Said' where nothing that the law and all that it calls make is longer than what came in: it says more and counts as full. Else prove '..UptoSaid'. A law counts once. -/
mutual
def uptoBulk {H : Type} : DataW H → Nat
  | .lit (.string bytes) => bytes.length + 1
  | .lit _ => 1
  | .nil => 1
  | .ptr d => uptoBulk d + 1
  | .slice elems spare => uptoBulkAll elems + uptoBulkAll spare + 1
  | .agg parts => uptoBulkAll parts + 1
  | .iface _ d => uptoBulk d + 1
  | .map entries => uptoBulkEntries entries + 1
  | .held _ => 1
def uptoBulkAll {H : Type} : List (DataW H) → Nat
  | [] => 0
  | d :: r => uptoBulk d + uptoBulkAll r
def uptoBulkEntries {H : Type} : List (Lit × DataW H) → Nat
  | [] => 0
  | x :: r => uptoBulkEntry x + uptoBulkEntries r
def uptoBulkEntry {H : Type} : Lit × DataW H → Nat
  | (.string bytes, d) => bytes.length + uptoBulk d + 1
  | (_, d) => uptoBulk d + 1
 end
def uptoSmall : (H : Type) → List (DataW H) → Bool := fun _ ds => decide (uptoBulkAll ds ≤ 1048576)
def OpenSpec.upto (s : _root_.Go.ChangeSpec) : _root_.Go.OpenSpec := { _root_.Go.OpenSpec.ofChange s with cond := some uptoSmall }

/-- 'concordatlaw03.SumsOf', WHERE WHAT IT READS IS OF BULK AT MOST 1048576: true; the input reads as it did. -/
def sumsOfUptoRow : OpenClaim := { program := "ytdhogkenmpgklaa", sum := "fa6ba18c51e074edbaaf5fb123dfaadad84f642b4edbe943584d0aed32fdce79", func := "concordat/concordatlaw03.SumsOf", spec := "sumsOf", unfollowed := true, recurses := true, apart := false, narrowed := true }
def SumsOfUptoSaid : Prop := sumsOfUptoRow.holds Try.pinned (OpenSpec.upto sumsOfSpec)

/-- 'concordatlaw03.SumsOn', WHERE WHAT IT READS IS OF BULK AT MOST 1048576: true; the input reads as it did. -/
def sumsOnUptoRow : OpenClaim := { program := "ytdhogkenmpgklaa", sum := "fa6ba18c51e074edbaaf5fb123dfaadad84f642b4edbe943584d0aed32fdce79", func := "concordat/concordatlaw03.SumsOn", spec := "sumsOn", unfollowed := true, recurses := true, apart := false, narrowed := true }
def SumsOnUptoSaid : Prop := sumsOnUptoRow.holds Try.pinned (OpenSpec.upto sumsOnSpec)

/-- 'concordatlaw03.SumsTurned', WHERE WHAT IT READS IS OF BULK AT MOST 1048576: true; the input reads as it did. -/
def sumsTurnedUptoRow : OpenClaim := { program := "ytdhogkenmpgklaa", sum := "fa6ba18c51e074edbaaf5fb123dfaadad84f642b4edbe943584d0aed32fdce79", func := "concordat/concordatlaw03.SumsTurned", spec := "sumsTurned", unfollowed := true, recurses := true, apart := false, narrowed := true }
def SumsTurnedUptoSaid : Prop := sumsTurnedUptoRow.holds Try.pinned (OpenSpec.upto sumsTurnedSpec)

/-- 'concordatlaw03.SumsApart', WHERE WHAT IT READS IS OF BULK AT MOST 1048576: true; the input reads as it did. -/
def sumsApartUptoRow : OpenClaim := { program := "ytdhogkenmpgklaa", sum := "fa6ba18c51e074edbaaf5fb123dfaadad84f642b4edbe943584d0aed32fdce79", func := "concordat/concordatlaw03.SumsApart", spec := "sumsApart", unfollowed := true, recurses := true, apart := false, narrowed := true }
def SumsApartUptoSaid : Prop := sumsApartUptoRow.holds Try.pinned (OpenSpec.upto sumsApartSpec)

/-- 'concordatlaw03.SumsLong', WHERE WHAT IT READS IS OF BULK AT MOST 1048576: true; the input reads as it did. -/
def sumsLongUptoRow : OpenClaim := { program := "ytdhogkenmpgklaa", sum := "fa6ba18c51e074edbaaf5fb123dfaadad84f642b4edbe943584d0aed32fdce79", func := "concordat/concordatlaw03.SumsLong", spec := "sumsLong", unfollowed := true, recurses := true, apart := false, narrowed := true }
def SumsLongUptoSaid : Prop := sumsLongUptoRow.holds Try.pinned (OpenSpec.upto sumsLongSpec)

/-- 'concordatlaw03.SumsSealed', WHERE WHAT IT READS IS OF BULK AT MOST 1048576: true; the input reads as it did. -/
def sumsSealedUptoRow : OpenClaim := { program := "ytdhogkenmpgklaa", sum := "fa6ba18c51e074edbaaf5fb123dfaadad84f642b4edbe943584d0aed32fdce79", func := "concordat/concordatlaw03.SumsSealed", spec := "sumsSealed", unfollowed := true, recurses := true, apart := false, narrowed := true }
def SumsSealedUptoSaid : Prop := sumsSealedUptoRow.holds Try.pinned (OpenSpec.upto sumsSealedSpec)

/-- 'concordatlaw03.SumsFour', WHERE WHAT IT READS IS OF BULK AT MOST 1048576: true; the input reads as it did. -/
def sumsFourUptoRow : OpenClaim := { program := "ytdhogkenmpgklaa", sum := "fa6ba18c51e074edbaaf5fb123dfaadad84f642b4edbe943584d0aed32fdce79", func := "concordat/concordatlaw03.SumsFour", spec := "sumsFour", unfollowed := true, recurses := true, apart := false, narrowed := true }
def SumsFourUptoSaid : Prop := sumsFourUptoRow.holds Try.pinned (OpenSpec.upto sumsFourSpec)

end Rows
end Go.Proofs.Ytdhogkenmpgklaa
