/- WallsMany walked: over its walk and its plain law. -/
import Derived.Test.YtmpkoacpakepfaaKWallsMany
import Derived.Test.YtmpkoacpakepfaaPWallsMany
import Derived.Test.YtmpkoacpakepfaaRow
import Derived.Test.YtmpkoacpakepfaaRdr
namespace Go.Proofs.Ytmpkoacpakepfaa.Pl
open Go Go.RowKit Sx Base Own Disk Bytes

theorem WallsMany_law (a0 : Int) (a1 : Int) (W : World) (v0 : (Lit.int .u8 a0).wf = true) (v1 : (Lit.int .u8 a1).wf = true) : Calls Try.prog 8 #[(.int .u8 a0), (.int .u8 a1)] W fun e w' => e = .returned (.bool true) ∧ Below W.heap.size W w' := by
  obtain ⟨k, hk⟩ := WallsMany_pure a0 a1 v0 v1
  exact (WallsMany.walk k a0 a1 v0 v1 (Sat.start W) hk).mono fun e w' ⟨h1, _, h3⟩ => ⟨h1, h3.below⟩
end Go.Proofs.Ytmpkoacpakepfaa.Pl
