/- WallsOn walked: over its walk and its plain law. -/
import Derived.Test.YtmpkoacpakepfaaKWallsOn
import Derived.Test.YtmpkoacpakepfaaPWallsOn
import Derived.Test.YtmpkoacpakepfaaRow
import Derived.Test.YtmpkoacpakepfaaRdr
namespace Go.Proofs.Ytmpkoacpakepfaa.Pl
open Go Go.RowKit Sx Base Own Disk Bytes

theorem WallsOn_law (A0 : Option Addr) (c0 : Nat) (l0 : List (List Int)) (A1 : Option Addr) (c1 : Nat) (l1 : List Bool) (W : World) (hc0 : l0.length ≤ c0) (hm0 : c0 ≤ maxLen) (hr0 : RR .u8 W A0 l0) (z0 : Rdr.smL (Rdr.smL (Rdr.smT (α := Int))) l0) (hc1 : l1.length ≤ c1) (hm1 : c1 ≤ maxLen) (hr1 : Rdr.Row Rdr.bool W A1 l1) (_z1 : (Rdr.smL Rdr.smT) l1) : Calls Try.prog 6 #[(.slice A0 l0.length c0), (.slice A1 l1.length c1)] W fun e w' => e = .returned (.bool true) ∧ Below W.heap.size W w' := by
  obtain ⟨k, hk⟩ := WallsOn_pure l0 l1 (fun x hx => (z0.2 x hx).1) (fun x hx => (RR.facts hr0 x hx).2) (Nat.le_trans hc1 hm1)
  exact (WallsOn.walk k A0 c0 l0 A1 c1 l1 hr0 ⟨hc0, hm0⟩ z0 hr1 ⟨hc1, hm1⟩ (Sat.start W) hk).mono fun e w' ⟨h1, _, h3⟩ => ⟨h1, h3.below⟩
end Go.Proofs.Ytmpkoacpakepfaa.Pl
