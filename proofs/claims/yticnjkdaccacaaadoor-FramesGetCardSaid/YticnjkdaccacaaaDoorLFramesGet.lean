/- FramesGet walked: over its walk and its plain law. -/
import Derived.Test.YticnjkdaccacaaaDoorKFramesGet
import Derived.Test.YticnjkdaccacaaaDoorPFramesGet
import Derived.Test.YticnjkdaccacaaaDoorRow
import Derived.Test.YticnjkdaccacaaaDoorRdr
namespace Go.Proofs.YticnjkdaccacaaaDoor.Pl
open Go Go.RowKit Sx Base Own

theorem FramesGet_law (A0 : Option Addr) (c0 : Nat) (l0 : List Int) (W : World) (hc0 : l0.length ≤ c0) (hm0 : c0 ≤ maxLen) (hy0 : l0.length ≤ 140737488351232) (v0 : ∀ n ∈ l0, (Lit.int .u8 n).wf = true) (hr0 : Rd .u8 W A0 l0) : Calls Tryd.prog 4 #[(.slice A0 l0.length c0)] W fun e w' => e = .returned (.bool true) ∧ Below W.heap.size W w' := by
  obtain ⟨k, hk⟩ := FramesGet_pure l0 hy0 v0
  exact (FramesGet.walk k A0 c0 l0 ⟨hr0, v0⟩ ⟨hc0, hm0⟩ (Sat.start W) hk).mono fun e w' ⟨h1, _, h3⟩ => ⟨h1, h3.below⟩
end Go.Proofs.YticnjkdaccacaaaDoor.Pl
