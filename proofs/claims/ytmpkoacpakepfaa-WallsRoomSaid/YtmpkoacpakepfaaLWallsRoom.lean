/- WallsRoom walked: over its walk and its plain law. -/
import Derived.Test.YtmpkoacpakepfaaKWallsRoom
import Derived.Test.YtmpkoacpakepfaaPWallsRoom
import Derived.Test.YtmpkoacpakepfaaRow
import Derived.Test.YtmpkoacpakepfaaRdr
namespace Go.Proofs.Ytmpkoacpakepfaa.Pl
open Go Go.RowKit Sx Base Own Disk Bytes

theorem WallsRoom_law (a0 : Int) (A1 : Option Addr) (c1 : Nat) (l1 : List Int) (W : World) (v0 : (Lit.int .u8 a0).wf = true) (hc1 : l1.length ≤ c1) (hm1 : c1 ≤ maxLen) (hy1 : l1.length ≤ 140737488351232) (v1 : ∀ n ∈ l1, (Lit.int .u16 n).wf = true) (hr1 : Rd .u16 W A1 l1) : Calls Try.prog 5 #[(.int .u8 a0), (.slice A1 l1.length c1)] W fun e w' => e = .returned (.bool true) ∧ Below W.heap.size W w' := by
  obtain ⟨k, hk⟩ := WallsRoom_pure a0 l1 v0 hy1 v1
  exact (WallsRoom.walk k a0 A1 c1 l1 v0 ⟨hr1, v1⟩ ⟨hc1, hm1⟩ (Sat.start W) hk).mono fun e w' ⟨h1, _, h3⟩ => ⟨h1, h3.below⟩
end Go.Proofs.Ytmpkoacpakepfaa.Pl
