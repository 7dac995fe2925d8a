/-
  No cell of these rows narrows 'for every input' (looked for: loops, veiled, ifaces, maps, wideKeys, modest, calm, conditions, laid).
  DERIVED. THE GIVEN ROWS OF THIS SEAT. 5 by the template 'for every input the law returns true; each argument reads behind the call as it read before'; 0 by the template 'total and deterministic' (their statements: YtifbmhlnkjcmhaaTotals.lean).
  GIVEN WITH THE SEED: the statements are not yours to turn. If you find one false, say at which input.
  Laid BY PROGRAM, IN A SANDBOX (cutbox-rows.mjs): the forced cells as the released guide's own fill.sh prints them over the translation af72caaaae6b3e01… (all of the seat's roots in one cut). By AI agents, Wed Nov 11 2026. No macro, syntax, notation, axiom, sorry.
-/
import Derived.Test.YtifbmhlnkjcmhaaChecked
import GoSem.Claim
import GoSem.ClaimJoined
import GoSem.ClaimMapViews
import Derived.JoinedTies
import Derived.KernelRfl
namespace Go.Proofs.Ytifbmhlnkjcmhaa
/- THE CELL 'sum', in the pinned program and in every row, IS THE sha256 OF THE DUMP (.gsa) THAT YtifbmhlnkjcmhaaProg.lean LOADS. Nothing in Lean hashes anything: it is a label: what it is worth is what the hold of that sum in a sandbox is worth. -/
noncomputable def Try.pinned : Pinned := { name := "ytifbmhlnkjcmhaa", sum := "af72caaaae6b3e01bc1bbed3ba3d4cb773dba360bcfe284eb1c117af7afe9656", checked := Try.checked }
namespace Rows
def none {H : Type} : Left H := { results := [], args := [] }

/-- 'concordatlaw05.FramesBack': WHATEVER THE INPUT: true; the input reads as it did. -/
def framesBackSpec : ChangeSpec := { name := "framesBack", fn := fun _ => fun
  | [d1, d2] => { results := [.lit (.bool true)], args := [d1, d2] }
  | _ => none }
def framesBackRow : OpenClaim := { program := "ytifbmhlnkjcmhaa", sum := "af72caaaae6b3e01bc1bbed3ba3d4cb773dba360bcfe284eb1c117af7afe9656", func := "concordat/concordatlaw05.FramesBack", spec := "framesBack", unfollowed := true, recurses := true, apart := false }
def FramesBackSaid : Prop := framesBackRow.holds Try.pinned (OpenSpec.ofChange framesBackSpec)

/-- ITS FALSE NEIGHBOUR: 'it returns false'. Refute it at one input. -/
def framesBackWrong : ChangeSpec := { name := "framesBack", fn := fun _ => fun
  | [d1, d2] => { results := [.lit (.bool false)], args := [d1, d2] }
  | _ => none }
def FramesBackWrongFalsely : Prop := framesBackRow.holds Try.pinned (OpenSpec.ofChange framesBackWrong)

/-- 'concordatlaw05.FramesAny': WHATEVER THE INPUT: true; the input reads as it did. -/
def framesAnySpec : ChangeSpec := { name := "framesAny", fn := fun _ => fun
  | [d] => { results := [.lit (.bool true)], args := [d] }
  | _ => none }
def framesAnyRow : OpenClaim := { program := "ytifbmhlnkjcmhaa", sum := "af72caaaae6b3e01bc1bbed3ba3d4cb773dba360bcfe284eb1c117af7afe9656", func := "concordat/concordatlaw05.FramesAny", spec := "framesAny", unfollowed := true, recurses := true, apart := false }
def FramesAnySaid : Prop := framesAnyRow.holds Try.pinned (OpenSpec.ofChange framesAnySpec)

/-- ITS FALSE NEIGHBOUR: 'it returns false'. Refute it at one input. -/
def framesAnyWrong : ChangeSpec := { name := "framesAny", fn := fun _ => fun
  | [d] => { results := [.lit (.bool false)], args := [d] }
  | _ => none }
def FramesAnyWrongFalsely : Prop := framesAnyRow.holds Try.pinned (OpenSpec.ofChange framesAnyWrong)

/-- 'concordatlaw05.FramesMany': WHATEVER THE INPUT: true; the input reads as it did. -/
def framesManySpec : ChangeSpec := { name := "framesMany", fn := fun _ => fun
  | [d] => { results := [.lit (.bool true)], args := [d] }
  | _ => none }
def framesManyRow : OpenClaim := { program := "ytifbmhlnkjcmhaa", sum := "af72caaaae6b3e01bc1bbed3ba3d4cb773dba360bcfe284eb1c117af7afe9656", func := "concordat/concordatlaw05.FramesMany", spec := "framesMany", unfollowed := true, recurses := true, apart := false }
def FramesManySaid : Prop := framesManyRow.holds Try.pinned (OpenSpec.ofChange framesManySpec)

/-- ITS FALSE NEIGHBOUR: 'it returns false'. Refute it at one input. -/
def framesManyWrong : ChangeSpec := { name := "framesMany", fn := fun _ => fun
  | [d] => { results := [.lit (.bool false)], args := [d] }
  | _ => none }
def FramesManyWrongFalsely : Prop := framesManyRow.holds Try.pinned (OpenSpec.ofChange framesManyWrong)

/-- 'concordatlaw05.FramesUnlike': WHATEVER THE INPUT: true; the input reads as it did. -/
def framesUnlikeSpec : ChangeSpec := { name := "framesUnlike", fn := fun _ => fun
  | [d1, d2] => { results := [.lit (.bool true)], args := [d1, d2] }
  | _ => none }
def framesUnlikeRow : OpenClaim := { program := "ytifbmhlnkjcmhaa", sum := "af72caaaae6b3e01bc1bbed3ba3d4cb773dba360bcfe284eb1c117af7afe9656", func := "concordat/concordatlaw05.FramesUnlike", spec := "framesUnlike", unfollowed := true, recurses := true, apart := false }
def FramesUnlikeSaid : Prop := framesUnlikeRow.holds Try.pinned (OpenSpec.ofChange framesUnlikeSpec)

/-- ITS FALSE NEIGHBOUR: 'it returns false'. Refute it at one input. -/
def framesUnlikeWrong : ChangeSpec := { name := "framesUnlike", fn := fun _ => fun
  | [d1, d2] => { results := [.lit (.bool false)], args := [d1, d2] }
  | _ => none }
def FramesUnlikeWrongFalsely : Prop := framesUnlikeRow.holds Try.pinned (OpenSpec.ofChange framesUnlikeWrong)

/-- 'concordatlaw05.FramesGrow': WHATEVER THE INPUT: true; the input reads as it did. -/
def framesGrowSpec : ChangeSpec := { name := "framesGrow", fn := fun _ => fun
  | [d1, d2] => { results := [.lit (.bool true)], args := [d1, d2] }
  | _ => none }
def framesGrowRow : OpenClaim := { program := "ytifbmhlnkjcmhaa", sum := "af72caaaae6b3e01bc1bbed3ba3d4cb773dba360bcfe284eb1c117af7afe9656", func := "concordat/concordatlaw05.FramesGrow", spec := "framesGrow", unfollowed := true, recurses := true, apart := false }
def FramesGrowSaid : Prop := framesGrowRow.holds Try.pinned (OpenSpec.ofChange framesGrowSpec)

/-- ITS FALSE NEIGHBOUR: 'it returns false'. Refute it at one input. -/
def framesGrowWrong : ChangeSpec := { name := "framesGrow", fn := fun _ => fun
  | [d1, d2] => { results := [.lit (.bool false)], args := [d1, d2] }
  | _ => none }
def FramesGrowWrongFalsely : Prop := framesGrowRow.holds Try.pinned (OpenSpec.ofChange framesGrowWrong)

/- THE SECOND FORM. 'bulk': how many values and letters a reading holds, each counted each time it is reached (what is shared counts as often as it is met; a slice's spare places count too). A statement '..UptoSaid' is the law's where the arguments, and the package variables that the reading takes, are together of bulk at most 1048576: NARROWER than '..Said'. Prove '..Said' where nothing that the law and all that it calls make is longer than what came in: it says more and counts as full. Else prove '..UptoSaid'. A law counts once. -/
mutual
def uptoBulk {H : Type} : DataW H → Nat
  | .lit (.string bytes) => bytes.length + 1
  | .lit _ => 1
  | .nil => 1
  | .ptr d => uptoBulk d + 1
  | .slice elems spare => uptoBulkAll elems + uptoBulkAll spare + 1
  | .agg parts => uptoBulkAll parts + 1
  | .iface _ d => uptoBulk d + 1
  | .map entries => uptoBulkEntries entries + 1
  | .held _ => 1
def uptoBulkAll {H : Type} : List (DataW H) → Nat
  | [] => 0
  | d :: r => uptoBulk d + uptoBulkAll r
def uptoBulkEntries {H : Type} : List (Lit × DataW H) → Nat
  | [] => 0
  | x :: r => uptoBulkEntry x + uptoBulkEntries r
def uptoBulkEntry {H : Type} : Lit × DataW H → Nat
  | (.string bytes, d) => bytes.length + uptoBulk d + 1
  | (_, d) => uptoBulk d + 1
 end
def uptoSmall : (H : Type) → List (DataW H) → Bool := fun _ ds => decide (uptoBulkAll ds ≤ 1048576)
def OpenSpec.upto (s : _root_.Go.ChangeSpec) : _root_.Go.OpenSpec := { _root_.Go.OpenSpec.ofChange s with cond := some uptoSmall }

/-- 'concordatlaw05.FramesBack', WHERE WHAT IT READS IS OF BULK AT MOST 1048576: true; the input reads as it did. -/
def framesBackUptoRow : OpenClaim := { program := "ytifbmhlnkjcmhaa", sum := "af72caaaae6b3e01bc1bbed3ba3d4cb773dba360bcfe284eb1c117af7afe9656", func := "concordat/concordatlaw05.FramesBack", spec := "framesBack", unfollowed := true, recurses := true, apart := false, narrowed := true }
def FramesBackUptoSaid : Prop := framesBackUptoRow.holds Try.pinned (OpenSpec.upto framesBackSpec)

/-- 'concordatlaw05.FramesAny', WHERE WHAT IT READS IS OF BULK AT MOST 1048576: true; the input reads as it did. -/
def framesAnyUptoRow : OpenClaim := { program := "ytifbmhlnkjcmhaa", sum := "af72caaaae6b3e01bc1bbed3ba3d4cb773dba360bcfe284eb1c117af7afe9656", func := "concordat/concordatlaw05.FramesAny", spec := "framesAny", unfollowed := true, recurses := true, apart := false, narrowed := true }
def FramesAnyUptoSaid : Prop := framesAnyUptoRow.holds Try.pinned (OpenSpec.upto framesAnySpec)

/-- 'concordatlaw05.FramesMany', WHERE WHAT IT READS IS OF BULK AT MOST 1048576: true; the input reads as it did. -/
def framesManyUptoRow : OpenClaim := { program := "ytifbmhlnkjcmhaa", sum := "af72caaaae6b3e01bc1bbed3ba3d4cb773dba360bcfe284eb1c117af7afe9656", func := "concordat/concordatlaw05.FramesMany", spec := "framesMany", unfollowed := true, recurses := true, apart := false, narrowed := true }
def FramesManyUptoSaid : Prop := framesManyUptoRow.holds Try.pinned (OpenSpec.upto framesManySpec)

/-- 'concordatlaw05.FramesUnlike', WHERE WHAT IT READS IS OF BULK AT MOST 1048576: true; the input reads as it did. -/
def framesUnlikeUptoRow : OpenClaim := { program := "ytifbmhlnkjcmhaa", sum := "af72caaaae6b3e01bc1bbed3ba3d4cb773dba360bcfe284eb1c117af7afe9656", func := "concordat/concordatlaw05.FramesUnlike", spec := "framesUnlike", unfollowed := true, recurses := true, apart := false, narrowed := true }
def FramesUnlikeUptoSaid : Prop := framesUnlikeUptoRow.holds Try.pinned (OpenSpec.upto framesUnlikeSpec)

/-- 'concordatlaw05.FramesGrow', WHERE WHAT IT READS IS OF BULK AT MOST 1048576: true; the input reads as it did. -/
def framesGrowUptoRow : OpenClaim := { program := "ytifbmhlnkjcmhaa", sum := "af72caaaae6b3e01bc1bbed3ba3d4cb773dba360bcfe284eb1c117af7afe9656", func := "concordat/concordatlaw05.FramesGrow", spec := "framesGrow", unfollowed := true, recurses := true, apart := false, narrowed := true }
def FramesGrowUptoSaid : Prop := framesGrowUptoRow.holds Try.pinned (OpenSpec.upto framesGrowSpec)

end Rows
end Go.Proofs.Ytifbmhlnkjcmhaa
