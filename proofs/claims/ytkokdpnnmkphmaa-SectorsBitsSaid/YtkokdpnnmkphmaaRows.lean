/-
  No cell of these rows narrows 'for every input' (looked for: loops, veiled, ifaces, maps, wideKeys, modest, calm, conditions, laid).
  DERIVED. THE GIVEN ROWS OF THIS SEAT. 7 by the template 'for every input the law returns true; each argument reads behind the call as it read before'; 0 by the template 'total and deterministic' (their statements: YtkokdpnnmkphmaaTotals.lean).
  GIVEN WITH THE SEED: the statements are not yours to turn. If you find one false, say at which input.
  Laid BY PROGRAM, IN A SANDBOX (cutbox-rows.mjs): the forced cells as the released guide's own fill.sh prints them over the translation 871aa3a3ed31b4bd… (all of the seat's roots in one cut). By AI agents, Wed Nov 11 2026. No macro, syntax, notation, axiom, sorry.
-/
import Derived.Test.YtkokdpnnmkphmaaChecked
import GoSem.Claim
import GoSem.ClaimJoined
import GoSem.ClaimMapViews
import Derived.JoinedTies
import Derived.KernelRfl
namespace Go.Proofs.Ytkokdpnnmkphmaa
/- THE CELL 'sum', in the pinned program and in every row, IS THE sha256 OF THE DUMP (.gsa) THAT YtkokdpnnmkphmaaProg.lean LOADS. Nothing in Lean hashes anything: it is a label: what it is worth is what the hold of that sum in a sandbox is worth. -/
noncomputable def Try.pinned : Pinned := { name := "ytkokdpnnmkphmaa", sum := "871aa3a3ed31b4bd06b7ba1aa1184425fe957f0ed0a3eab07fb24a6b3c0fc550", checked := Try.checked }
namespace Rows
def none {H : Type} : Left H := { results := [], args := [] }

/-- 'concordatlaw04.SectorsNone': WHATEVER THE INPUT: true; the input reads as it did. -/
def sectorsNoneSpec : ChangeSpec := { name := "sectorsNone", fn := fun _ => fun
  | [d1, d2, d3] => { results := [.lit (.bool true)], args := [d1, d2, d3] }
  | _ => none }
def sectorsNoneRow : OpenClaim := { program := "ytkokdpnnmkphmaa", sum := "871aa3a3ed31b4bd06b7ba1aa1184425fe957f0ed0a3eab07fb24a6b3c0fc550", func := "concordat/concordatlaw04.SectorsNone", spec := "sectorsNone", apart := false }
def SectorsNoneSaid : Prop := sectorsNoneRow.holds Try.pinned (OpenSpec.ofChange sectorsNoneSpec)

/-- ITS FALSE NEIGHBOUR: 'it returns false'. Refute it at one input. -/
def sectorsNoneWrong : ChangeSpec := { name := "sectorsNone", fn := fun _ => fun
  | [d1, d2, d3] => { results := [.lit (.bool false)], args := [d1, d2, d3] }
  | _ => none }
def SectorsNoneWrongFalsely : Prop := sectorsNoneRow.holds Try.pinned (OpenSpec.ofChange sectorsNoneWrong)

/-- 'concordatlaw04.SectorsSure': WHATEVER THE INPUT: true; the input reads as it did. -/
def sectorsSureSpec : ChangeSpec := { name := "sectorsSure", fn := fun _ => fun
  | [d1, d2, d3] => { results := [.lit (.bool true)], args := [d1, d2, d3] }
  | _ => none }
def sectorsSureRow : OpenClaim := { program := "ytkokdpnnmkphmaa", sum := "871aa3a3ed31b4bd06b7ba1aa1184425fe957f0ed0a3eab07fb24a6b3c0fc550", func := "concordat/concordatlaw04.SectorsSure", spec := "sectorsSure", apart := false }
def SectorsSureSaid : Prop := sectorsSureRow.holds Try.pinned (OpenSpec.ofChange sectorsSureSpec)

/-- ITS FALSE NEIGHBOUR: 'it returns false'. Refute it at one input. -/
def sectorsSureWrong : ChangeSpec := { name := "sectorsSure", fn := fun _ => fun
  | [d1, d2, d3] => { results := [.lit (.bool false)], args := [d1, d2, d3] }
  | _ => none }
def SectorsSureWrongFalsely : Prop := sectorsSureRow.holds Try.pinned (OpenSpec.ofChange sectorsSureWrong)

/-- 'concordatlaw04.SectorsSeen': WHATEVER THE INPUT: true; the input reads as it did. -/
def sectorsSeenSpec : ChangeSpec := { name := "sectorsSeen", fn := fun _ => fun
  | [d1, d2, d3] => { results := [.lit (.bool true)], args := [d1, d2, d3] }
  | _ => none }
def sectorsSeenRow : OpenClaim := { program := "ytkokdpnnmkphmaa", sum := "871aa3a3ed31b4bd06b7ba1aa1184425fe957f0ed0a3eab07fb24a6b3c0fc550", func := "concordat/concordatlaw04.SectorsSeen", spec := "sectorsSeen", apart := false }
def SectorsSeenSaid : Prop := sectorsSeenRow.holds Try.pinned (OpenSpec.ofChange sectorsSeenSpec)

/-- ITS FALSE NEIGHBOUR: 'it returns false'. Refute it at one input. -/
def sectorsSeenWrong : ChangeSpec := { name := "sectorsSeen", fn := fun _ => fun
  | [d1, d2, d3] => { results := [.lit (.bool false)], args := [d1, d2, d3] }
  | _ => none }
def SectorsSeenWrongFalsely : Prop := sectorsSeenRow.holds Try.pinned (OpenSpec.ofChange sectorsSeenWrong)

/-- 'concordatlaw04.SectorsTorn': WHATEVER THE INPUT: true; the input reads as it did. -/
def sectorsTornSpec : ChangeSpec := { name := "sectorsTorn", fn := fun _ => fun
  | [d1, d2, d3] => { results := [.lit (.bool true)], args := [d1, d2, d3] }
  | _ => none }
def sectorsTornRow : OpenClaim := { program := "ytkokdpnnmkphmaa", sum := "871aa3a3ed31b4bd06b7ba1aa1184425fe957f0ed0a3eab07fb24a6b3c0fc550", func := "concordat/concordatlaw04.SectorsTorn", spec := "sectorsTorn", apart := false }
def SectorsTornSaid : Prop := sectorsTornRow.holds Try.pinned (OpenSpec.ofChange sectorsTornSpec)

/-- ITS FALSE NEIGHBOUR: 'it returns false'. Refute it at one input. -/
def sectorsTornWrong : ChangeSpec := { name := "sectorsTorn", fn := fun _ => fun
  | [d1, d2, d3] => { results := [.lit (.bool false)], args := [d1, d2, d3] }
  | _ => none }
def SectorsTornWrongFalsely : Prop := sectorsTornRow.holds Try.pinned (OpenSpec.ofChange sectorsTornWrong)

/-- 'concordatlaw04.SectorsOrder': WHATEVER THE INPUT: true; the input reads as it did. -/
def sectorsOrderSpec : ChangeSpec := { name := "sectorsOrder", fn := fun _ => fun
  | [d1, d2] => { results := [.lit (.bool true)], args := [d1, d2] }
  | _ => none }
def sectorsOrderRow : OpenClaim := { program := "ytkokdpnnmkphmaa", sum := "871aa3a3ed31b4bd06b7ba1aa1184425fe957f0ed0a3eab07fb24a6b3c0fc550", func := "concordat/concordatlaw04.SectorsOrder", spec := "sectorsOrder", apart := false }
def SectorsOrderSaid : Prop := sectorsOrderRow.holds Try.pinned (OpenSpec.ofChange sectorsOrderSpec)

/-- ITS FALSE NEIGHBOUR: 'it returns false'. Refute it at one input. -/
def sectorsOrderWrong : ChangeSpec := { name := "sectorsOrder", fn := fun _ => fun
  | [d1, d2] => { results := [.lit (.bool false)], args := [d1, d2] }
  | _ => none }
def SectorsOrderWrongFalsely : Prop := sectorsOrderRow.holds Try.pinned (OpenSpec.ofChange sectorsOrderWrong)

/-- 'concordatlaw04.SectorsAll': WHATEVER THE INPUT: true; the input reads as it did. -/
def sectorsAllSpec : ChangeSpec := { name := "sectorsAll", fn := fun _ => fun
  | [d1, d2] => { results := [.lit (.bool true)], args := [d1, d2] }
  | _ => none }
def sectorsAllRow : OpenClaim := { program := "ytkokdpnnmkphmaa", sum := "871aa3a3ed31b4bd06b7ba1aa1184425fe957f0ed0a3eab07fb24a6b3c0fc550", func := "concordat/concordatlaw04.SectorsAll", spec := "sectorsAll", apart := false }
def SectorsAllSaid : Prop := sectorsAllRow.holds Try.pinned (OpenSpec.ofChange sectorsAllSpec)

/-- ITS FALSE NEIGHBOUR: 'it returns false'. Refute it at one input. -/
def sectorsAllWrong : ChangeSpec := { name := "sectorsAll", fn := fun _ => fun
  | [d1, d2] => { results := [.lit (.bool false)], args := [d1, d2] }
  | _ => none }
def SectorsAllWrongFalsely : Prop := sectorsAllRow.holds Try.pinned (OpenSpec.ofChange sectorsAllWrong)

/-- 'concordatlaw04.SectorsBits': WHATEVER THE INPUT: true; the input reads as it did. -/
def sectorsBitsSpec : ChangeSpec := { name := "sectorsBits", fn := fun _ => fun
  | [d1, d2, d3] => { results := [.lit (.bool true)], args := [d1, d2, d3] }
  | _ => none }
def sectorsBitsRow : OpenClaim := { program := "ytkokdpnnmkphmaa", sum := "871aa3a3ed31b4bd06b7ba1aa1184425fe957f0ed0a3eab07fb24a6b3c0fc550", func := "concordat/concordatlaw04.SectorsBits", spec := "sectorsBits", apart := false }
def SectorsBitsSaid : Prop := sectorsBitsRow.holds Try.pinned (OpenSpec.ofChange sectorsBitsSpec)

/-- ITS FALSE NEIGHBOUR: 'it returns false'. Refute it at one input. -/
def sectorsBitsWrong : ChangeSpec := { name := "sectorsBits", fn := fun _ => fun
  | [d1, d2, d3] => { results := [.lit (.bool false)], args := [d1, d2, d3] }
  | _ => none }
def SectorsBitsWrongFalsely : Prop := sectorsBitsRow.holds Try.pinned (OpenSpec.ofChange sectorsBitsWrong)

/- THE SECOND FORM. 'bulk': how many values and letters a reading holds, each counted each time it is reached (what is shared counts as often as it is met; a slice's spare places count too). A statement '..UptoSaid' is the law's where the arguments, and the package variables that the reading takes, are together of bulk at most 1048576: NARROWER than '..Said'. Prove '..Said' where nothing that the law and all that it calls make is longer than what came in: it says more and counts as full. Else prove '..UptoSaid'. A law counts once. -/
mutual
def uptoBulk {H : Type} : DataW H → Nat
  | .lit (.string bytes) => bytes.length + 1
  | .lit _ => 1
  | .nil => 1
  | .ptr d => uptoBulk d + 1
  | .slice elems spare => uptoBulkAll elems + uptoBulkAll spare + 1
  | .agg parts => uptoBulkAll parts + 1
  | .iface _ d => uptoBulk d + 1
  | .map entries => uptoBulkEntries entries + 1
  | .held _ => 1
def uptoBulkAll {H : Type} : List (DataW H) → Nat
  | [] => 0
  | d :: r => uptoBulk d + uptoBulkAll r
def uptoBulkEntries {H : Type} : List (Lit × DataW H) → Nat
  | [] => 0
  | x :: r => uptoBulkEntry x + uptoBulkEntries r
def uptoBulkEntry {H : Type} : Lit × DataW H → Nat
  | (.string bytes, d) => bytes.length + uptoBulk d + 1
  | (_, d) => uptoBulk d + 1
 end
def uptoSmall : (H : Type) → List (DataW H) → Bool := fun _ ds => decide (uptoBulkAll ds ≤ 1048576)
def OpenSpec.upto (s : _root_.Go.ChangeSpec) : _root_.Go.OpenSpec := { _root_.Go.OpenSpec.ofChange s with cond := some uptoSmall }

/-- 'concordatlaw04.SectorsNone', WHERE WHAT IT READS IS OF BULK AT MOST 1048576: true; the input reads as it did. -/
def sectorsNoneUptoRow : OpenClaim := { program := "ytkokdpnnmkphmaa", sum := "871aa3a3ed31b4bd06b7ba1aa1184425fe957f0ed0a3eab07fb24a6b3c0fc550", func := "concordat/concordatlaw04.SectorsNone", spec := "sectorsNone", apart := false, narrowed := true }
def SectorsNoneUptoSaid : Prop := sectorsNoneUptoRow.holds Try.pinned (OpenSpec.upto sectorsNoneSpec)

/-- 'concordatlaw04.SectorsSure', WHERE WHAT IT READS IS OF BULK AT MOST 1048576: true; the input reads as it did. -/
def sectorsSureUptoRow : OpenClaim := { program := "ytkokdpnnmkphmaa", sum := "871aa3a3ed31b4bd06b7ba1aa1184425fe957f0ed0a3eab07fb24a6b3c0fc550", func := "concordat/concordatlaw04.SectorsSure", spec := "sectorsSure", apart := false, narrowed := true }
def SectorsSureUptoSaid : Prop := sectorsSureUptoRow.holds Try.pinned (OpenSpec.upto sectorsSureSpec)

/-- 'concordatlaw04.SectorsSeen', WHERE WHAT IT READS IS OF BULK AT MOST 1048576: true; the input reads as it did. -/
def sectorsSeenUptoRow : OpenClaim := { program := "ytkokdpnnmkphmaa", sum := "871aa3a3ed31b4bd06b7ba1aa1184425fe957f0ed0a3eab07fb24a6b3c0fc550", func := "concordat/concordatlaw04.SectorsSeen", spec := "sectorsSeen", apart := false, narrowed := true }
def SectorsSeenUptoSaid : Prop := sectorsSeenUptoRow.holds Try.pinned (OpenSpec.upto sectorsSeenSpec)

/-- 'concordatlaw04.SectorsTorn', WHERE WHAT IT READS IS OF BULK AT MOST 1048576: true; the input reads as it did. -/
def sectorsTornUptoRow : OpenClaim := { program := "ytkokdpnnmkphmaa", sum := "871aa3a3ed31b4bd06b7ba1aa1184425fe957f0ed0a3eab07fb24a6b3c0fc550", func := "concordat/concordatlaw04.SectorsTorn", spec := "sectorsTorn", apart := false, narrowed := true }
def SectorsTornUptoSaid : Prop := sectorsTornUptoRow.holds Try.pinned (OpenSpec.upto sectorsTornSpec)

/-- 'concordatlaw04.SectorsOrder', WHERE WHAT IT READS IS OF BULK AT MOST 1048576: true; the input reads as it did. -/
def sectorsOrderUptoRow : OpenClaim := { program := "ytkokdpnnmkphmaa", sum := "871aa3a3ed31b4bd06b7ba1aa1184425fe957f0ed0a3eab07fb24a6b3c0fc550", func := "concordat/concordatlaw04.SectorsOrder", spec := "sectorsOrder", apart := false, narrowed := true }
def SectorsOrderUptoSaid : Prop := sectorsOrderUptoRow.holds Try.pinned (OpenSpec.upto sectorsOrderSpec)

/-- 'concordatlaw04.SectorsAll', WHERE WHAT IT READS IS OF BULK AT MOST 1048576: true; the input reads as it did. -/
def sectorsAllUptoRow : OpenClaim := { program := "ytkokdpnnmkphmaa", sum := "871aa3a3ed31b4bd06b7ba1aa1184425fe957f0ed0a3eab07fb24a6b3c0fc550", func := "concordat/concordatlaw04.SectorsAll", spec := "sectorsAll", apart := false, narrowed := true }
def SectorsAllUptoSaid : Prop := sectorsAllUptoRow.holds Try.pinned (OpenSpec.upto sectorsAllSpec)

/-- 'concordatlaw04.SectorsBits', WHERE WHAT IT READS IS OF BULK AT MOST 1048576: true; the input reads as it did. -/
def sectorsBitsUptoRow : OpenClaim := { program := "ytkokdpnnmkphmaa", sum := "871aa3a3ed31b4bd06b7ba1aa1184425fe957f0ed0a3eab07fb24a6b3c0fc550", func := "concordat/concordatlaw04.SectorsBits", spec := "sectorsBits", apart := false, narrowed := true }
def SectorsBitsUptoSaid : Prop := sectorsBitsUptoRow.holds Try.pinned (OpenSpec.upto sectorsBitsSpec)

end Rows
end Go.Proofs.Ytkokdpnnmkphmaa
