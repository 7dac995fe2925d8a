/- WallsAll walked: over its walk and its plain law. -/
import Derived.Test.YtmpkoacpakepfaaKWallsAll
import Derived.Test.YtmpkoacpakepfaaPWallsAll
import Derived.Test.YtmpkoacpakepfaaRow
import Derived.Test.YtmpkoacpakepfaaRdr
namespace Go.Proofs.Ytmpkoacpakepfaa.Pl
open Go Go.RowKit Sx Base Own Disk Bytes

theorem WallsAll_law (A0 : Option Addr) (c0 : Nat) (l0 : List (List Int)) (a1 : Bool) (W : World) (hc0 : l0.length ≤ c0) (hm0 : c0 ≤ maxLen) (hr0 : RR .u8 W A0 l0) (z0 : Rdr.smL (Rdr.smL (Rdr.smT (α := Int))) l0) : Calls Try.prog 9 #[(.slice A0 l0.length c0), (.bool a1)] W fun e w' => e = .returned (.bool true) ∧ Below W.heap.size W w' := by
  obtain ⟨k, hk⟩ := WallsAll_pure l0 a1 (fun x hx => (z0.2 x hx).1) (fun x hx => (RR.facts hr0 x hx).2)
  exact (WallsAll.walk k A0 c0 l0 a1 hr0 ⟨hc0, hm0⟩ z0 (Sat.start W) hk).mono fun e w' ⟨h1, _, h3⟩ => ⟨h1, h3.below⟩
end Go.Proofs.Ytmpkoacpakepfaa.Pl
