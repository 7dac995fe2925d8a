/-
  No cell of these rows narrows 'for every input' (looked for: loops, veiled, ifaces, maps, wideKeys, modest, calm, conditions, laid).
  DERIVED. THE GIVEN ROWS OF THIS SEAT. 5 by the template 'for every input the law returns true; each argument reads behind the call as it read before'; 0 by the template 'total and deterministic' (their statements: YticnjkdaccacaaaGreatTotals.lean).
  GIVEN WITH THE SEED: the statements are not yours to turn. If you find one false, say at which input.
  Laid BY PROGRAM, IN A SANDBOX (cutbox-rows.mjs): the forced cells as the released guide's own fill.sh prints them over the translation f7ef75ca795272f7… (all of the seat's roots in one cut). By AI agents, Wed Nov 11 2026. No macro, syntax, notation, axiom, sorry.
-/
import Derived.Test.YticnjkdaccacaaaGreatChecked
import GoSem.Claim
import GoSem.ClaimJoined
import GoSem.ClaimMapViews
import Derived.JoinedTies
import Derived.KernelRfl
namespace Go.Proofs.YticnjkdaccacaaaGreat
/- THE CELL 'sum', in the pinned program and in every row, IS THE sha256 OF THE DUMP (.gsa) THAT YticnjkdaccacaaaGreatProg.lean LOADS. Nothing in Lean hashes anything: it is a label: what it is worth is what the hold of that sum in a sandbox is worth. -/
noncomputable def Tryz.pinned : Pinned := { name := "yticnjkdaccacaaagreat", sum := "f7ef75ca795272f7e20f8fa5ed75e986a999c7c39eaf403d5e8fc620b5bf550e", checked := Tryz.checked }
namespace Rows
def none {H : Type} : Left H := { results := [], args := [] }

/-- 'concordatlaw21.ChiefsPatience': WHATEVER THE INPUT: true; the input reads as it did. -/
def chiefsPatienceSpec : ChangeSpec := { name := "chiefsPatience", fn := fun _ => fun
  | [d1, d2, d3] => { results := [.lit (.bool true)], args := [d1, d2, d3] }
  | _ => none }
def chiefsPatienceRow : OpenClaim := { program := "yticnjkdaccacaaagreat", sum := "f7ef75ca795272f7e20f8fa5ed75e986a999c7c39eaf403d5e8fc620b5bf550e", func := "concordat/concordatlaw21.ChiefsPatience", spec := "chiefsPatience", unfollowed := true, recurses := true, apart := false }
def ChiefsPatienceSaid : Prop := chiefsPatienceRow.holds Tryz.pinned (OpenSpec.ofChange chiefsPatienceSpec)

/-- ITS FALSE NEIGHBOUR: 'it returns false'. Refute it at one input. -/
def chiefsPatienceWrong : ChangeSpec := { name := "chiefsPatience", fn := fun _ => fun
  | [d1, d2, d3] => { results := [.lit (.bool false)], args := [d1, d2, d3] }
  | _ => none }
def ChiefsPatienceWrongFalsely : Prop := chiefsPatienceRow.holds Tryz.pinned (OpenSpec.ofChange chiefsPatienceWrong)

/-- 'concordatlaw21.ChiefsOwn': WHATEVER THE INPUT: true; the input reads as it did. -/
def chiefsOwnSpec : ChangeSpec := { name := "chiefsOwn", fn := fun _ => fun
  | [d1, d2] => { results := [.lit (.bool true)], args := [d1, d2] }
  | _ => none }
def chiefsOwnRow : OpenClaim := { program := "yticnjkdaccacaaagreat", sum := "f7ef75ca795272f7e20f8fa5ed75e986a999c7c39eaf403d5e8fc620b5bf550e", func := "concordat/concordatlaw21.ChiefsOwn", spec := "chiefsOwn", unfollowed := true, recurses := true, apart := false }
def ChiefsOwnSaid : Prop := chiefsOwnRow.holds Tryz.pinned (OpenSpec.ofChange chiefsOwnSpec)

/-- ITS FALSE NEIGHBOUR: 'it returns false'. Refute it at one input. -/
def chiefsOwnWrong : ChangeSpec := { name := "chiefsOwn", fn := fun _ => fun
  | [d1, d2] => { results := [.lit (.bool false)], args := [d1, d2] }
  | _ => none }
def ChiefsOwnWrongFalsely : Prop := chiefsOwnRow.holds Tryz.pinned (OpenSpec.ofChange chiefsOwnWrong)

/-- 'concordatlaw21.ChiefsAll': WHATEVER THE INPUT: true; the input reads as it did. -/
def chiefsAllSpec : ChangeSpec := { name := "chiefsAll", fn := fun _ => fun
  | [d1, d2] => { results := [.lit (.bool true)], args := [d1, d2] }
  | _ => none }
def chiefsAllRow : OpenClaim := { program := "yticnjkdaccacaaagreat", sum := "f7ef75ca795272f7e20f8fa5ed75e986a999c7c39eaf403d5e8fc620b5bf550e", func := "concordat/concordatlaw21.ChiefsAll", spec := "chiefsAll", unfollowed := true, recurses := true, apart := false }
def ChiefsAllSaid : Prop := chiefsAllRow.holds Tryz.pinned (OpenSpec.ofChange chiefsAllSpec)

/-- ITS FALSE NEIGHBOUR: 'it returns false'. Refute it at one input. -/
def chiefsAllWrong : ChangeSpec := { name := "chiefsAll", fn := fun _ => fun
  | [d1, d2] => { results := [.lit (.bool false)], args := [d1, d2] }
  | _ => none }
def ChiefsAllWrongFalsely : Prop := chiefsAllRow.holds Tryz.pinned (OpenSpec.ofChange chiefsAllWrong)

/-- 'concordatlaw21.ChiefsStay': WHATEVER THE INPUT: true; the input reads as it did. -/
def chiefsStaySpec : ChangeSpec := { name := "chiefsStay", fn := fun _ => fun
  | [d] => { results := [.lit (.bool true)], args := [d] }
  | _ => none }
def chiefsStayRow : OpenClaim := { program := "yticnjkdaccacaaagreat", sum := "f7ef75ca795272f7e20f8fa5ed75e986a999c7c39eaf403d5e8fc620b5bf550e", func := "concordat/concordatlaw21.ChiefsStay", spec := "chiefsStay", unfollowed := true, recurses := true, apart := false }
def ChiefsStaySaid : Prop := chiefsStayRow.holds Tryz.pinned (OpenSpec.ofChange chiefsStaySpec)

/-- ITS FALSE NEIGHBOUR: 'it returns false'. Refute it at one input. -/
def chiefsStayWrong : ChangeSpec := { name := "chiefsStay", fn := fun _ => fun
  | [d] => { results := [.lit (.bool false)], args := [d] }
  | _ => none }
def ChiefsStayWrongFalsely : Prop := chiefsStayRow.holds Tryz.pinned (OpenSpec.ofChange chiefsStayWrong)

/-- 'concordatlaw21.ChiefsGone': WHATEVER THE INPUT: true; the input reads as it did. -/
def chiefsGoneSpec : ChangeSpec := { name := "chiefsGone", fn := fun _ => fun
  | [d1, d2, d3] => { results := [.lit (.bool true)], args := [d1, d2, d3] }
  | _ => none }
def chiefsGoneRow : OpenClaim := { program := "yticnjkdaccacaaagreat", sum := "f7ef75ca795272f7e20f8fa5ed75e986a999c7c39eaf403d5e8fc620b5bf550e", func := "concordat/concordatlaw21.ChiefsGone", spec := "chiefsGone", unfollowed := true, recurses := true, apart := false }
def ChiefsGoneSaid : Prop := chiefsGoneRow.holds Tryz.pinned (OpenSpec.ofChange chiefsGoneSpec)

/-- ITS FALSE NEIGHBOUR: 'it returns false'. Refute it at one input. -/
def chiefsGoneWrong : ChangeSpec := { name := "chiefsGone", fn := fun _ => fun
  | [d1, d2, d3] => { results := [.lit (.bool false)], args := [d1, d2, d3] }
  | _ => none }
def ChiefsGoneWrongFalsely : Prop := chiefsGoneRow.holds Tryz.pinned (OpenSpec.ofChange chiefsGoneWrong)

/- THE SECOND FORM. 'bulk': how many values and letters a reading holds, each counted each time it is reached (what is shared counts as often as it is met; a slice's spare places count too). A statement '..UptoSaid' is the law's where the arguments, and the package variables that the reading takes, are together of bulk at most 1048576: NARROWER than '..Said'. Prove '..Said' where nothing that the law and all that it calls make is longer than what came in: it says more and counts as full. Else prove '..UptoSaid'. A law counts once. -/
mutual
def uptoBulk {H : Type} : DataW H → Nat
  | .lit (.string bytes) => bytes.length + 1
  | .lit _ => 1
  | .nil => 1
  | .ptr d => uptoBulk d + 1
  | .slice elems spare => uptoBulkAll elems + uptoBulkAll spare + 1
  | .agg parts => uptoBulkAll parts + 1
  | .iface _ d => uptoBulk d + 1
  | .map entries => uptoBulkEntries entries + 1
  | .held _ => 1
def uptoBulkAll {H : Type} : List (DataW H) → Nat
  | [] => 0
  | d :: r => uptoBulk d + uptoBulkAll r
def uptoBulkEntries {H : Type} : List (Lit × DataW H) → Nat
  | [] => 0
  | x :: r => uptoBulkEntry x + uptoBulkEntries r
def uptoBulkEntry {H : Type} : Lit × DataW H → Nat
  | (.string bytes, d) => bytes.length + uptoBulk d + 1
  | (_, d) => uptoBulk d + 1
 end
def uptoSmall : (H : Type) → List (DataW H) → Bool := fun _ ds => decide (uptoBulkAll ds ≤ 1048576)
def OpenSpec.upto (s : _root_.Go.ChangeSpec) : _root_.Go.OpenSpec := { _root_.Go.OpenSpec.ofChange s with cond := some uptoSmall }

/-- 'concordatlaw21.ChiefsPatience', WHERE WHAT IT READS IS OF BULK AT MOST 1048576: true; the input reads as it did. -/
def chiefsPatienceUptoRow : OpenClaim := { program := "yticnjkdaccacaaagreat", sum := "f7ef75ca795272f7e20f8fa5ed75e986a999c7c39eaf403d5e8fc620b5bf550e", func := "concordat/concordatlaw21.ChiefsPatience", spec := "chiefsPatience", unfollowed := true, recurses := true, apart := false, narrowed := true }
def ChiefsPatienceUptoSaid : Prop := chiefsPatienceUptoRow.holds Tryz.pinned (OpenSpec.upto chiefsPatienceSpec)

/-- 'concordatlaw21.ChiefsOwn', WHERE WHAT IT READS IS OF BULK AT MOST 1048576: true; the input reads as it did. -/
def chiefsOwnUptoRow : OpenClaim := { program := "yticnjkdaccacaaagreat", sum := "f7ef75ca795272f7e20f8fa5ed75e986a999c7c39eaf403d5e8fc620b5bf550e", func := "concordat/concordatlaw21.ChiefsOwn", spec := "chiefsOwn", unfollowed := true, recurses := true, apart := false, narrowed := true }
def ChiefsOwnUptoSaid : Prop := chiefsOwnUptoRow.holds Tryz.pinned (OpenSpec.upto chiefsOwnSpec)

/-- 'concordatlaw21.ChiefsAll', WHERE WHAT IT READS IS OF BULK AT MOST 1048576: true; the input reads as it did. -/
def chiefsAllUptoRow : OpenClaim := { program := "yticnjkdaccacaaagreat", sum := "f7ef75ca795272f7e20f8fa5ed75e986a999c7c39eaf403d5e8fc620b5bf550e", func := "concordat/concordatlaw21.ChiefsAll", spec := "chiefsAll", unfollowed := true, recurses := true, apart := false, narrowed := true }
def ChiefsAllUptoSaid : Prop := chiefsAllUptoRow.holds Tryz.pinned (OpenSpec.upto chiefsAllSpec)

/-- 'concordatlaw21.ChiefsStay', WHERE WHAT IT READS IS OF BULK AT MOST 1048576: true; the input reads as it did. -/
def chiefsStayUptoRow : OpenClaim := { program := "yticnjkdaccacaaagreat", sum := "f7ef75ca795272f7e20f8fa5ed75e986a999c7c39eaf403d5e8fc620b5bf550e", func := "concordat/concordatlaw21.ChiefsStay", spec := "chiefsStay", unfollowed := true, recurses := true, apart := false, narrowed := true }
def ChiefsStayUptoSaid : Prop := chiefsStayUptoRow.holds Tryz.pinned (OpenSpec.upto chiefsStaySpec)

/-- 'concordatlaw21.ChiefsGone', WHERE WHAT IT READS IS OF BULK AT MOST 1048576: true; the input reads as it did. -/
def chiefsGoneUptoRow : OpenClaim := { program := "yticnjkdaccacaaagreat", sum := "f7ef75ca795272f7e20f8fa5ed75e986a999c7c39eaf403d5e8fc620b5bf550e", func := "concordat/concordatlaw21.ChiefsGone", spec := "chiefsGone", unfollowed := true, recurses := true, apart := false, narrowed := true }
def ChiefsGoneUptoSaid : Prop := chiefsGoneUptoRow.holds Tryz.pinned (OpenSpec.upto chiefsGoneSpec)

end Rows
end Go.Proofs.YticnjkdaccacaaaGreat
