/- WallsForced walked: over its walk and its plain law. -/
import Derived.Test.YtmpkoacpakepfaaKWallsForced
import Derived.Test.YtmpkoacpakepfaaPWallsForced
import Derived.Test.YtmpkoacpakepfaaRow
import Derived.Test.YtmpkoacpakepfaaRdr
namespace Go.Proofs.Ytmpkoacpakepfaa.Pl
open Go Go.RowKit Sx Base Own Disk Bytes

theorem WallsForced_law (A0 : Option Addr) (c0 : Nat) (l0 : List (List Int)) (a1 : Int) (a2 : Int) (W : World) (hc0 : l0.length ≤ c0) (hm0 : c0 ≤ maxLen) (hr0 : RR .u8 W A0 l0) (z0 : Rdr.smL (Rdr.smL (Rdr.smT (α := Int))) l0) (v1 : (Lit.int .u64 a1).wf = true) (v2 : (Lit.int .u8 a2).wf = true) : Calls Try.prog 7 #[(.slice A0 l0.length c0), (.int .u64 a1), (.int .u8 a2)] W fun e w' => e = .returned (.bool true) ∧ Below W.heap.size W w' := by
  obtain ⟨k, hk⟩ := WallsForced_pure l0 a1 a2 (fun x hx => (z0.2 x hx).1) (fun x hx => (RR.facts hr0 x hx).2) v1 v2
  exact (WallsForced.walk k A0 c0 l0 a1 a2 hr0 ⟨hc0, hm0⟩ z0 v1 v2 (Sat.start W) hk).mono fun e w' ⟨h1, _, h3⟩ => ⟨h1, h3.below⟩
end Go.Proofs.Ytmpkoacpakepfaa.Pl
