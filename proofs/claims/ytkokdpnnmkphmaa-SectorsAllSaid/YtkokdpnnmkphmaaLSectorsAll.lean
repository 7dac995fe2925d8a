/- SectorsAll walked: over its walk and its plain law. -/
import Derived.Test.YtkokdpnnmkphmaaKSectorsAll
import Derived.Test.YtkokdpnnmkphmaaPSectorsAll
import Derived.Test.YtkokdpnnmkphmaaRow
import Derived.Test.YtkokdpnnmkphmaaRdr
namespace Go.Proofs.Ytkokdpnnmkphmaa.Pl
open Go Go.RowKit Sx Base Own Disk Bytes

theorem SectorsAll_law (A0 : Option Addr) (c0 : Nat) (l0 : List Int) (a1 : Int) (W : World) (hc0 : l0.length ≤ c0) (hm0 : c0 ≤ maxLen) (hy0 : l0.length ≤ 140737488351232) (v0 : ∀ n ∈ l0, (Lit.int .u16 n).wf = true) (hr0 : Rd .u16 W A0 l0) (v1 : (Lit.int .u8 a1).wf = true) : Calls Try.prog 8 #[(.slice A0 l0.length c0), (.int .u8 a1)] W fun e w' => e = .returned (.bool true) ∧ Below W.heap.size W w' := by
  obtain ⟨k, hk⟩ := SectorsAll_pure l0 a1 hy0 v0 v1
  exact (SectorsAll.walk k A0 c0 l0 a1 ⟨hr0, v0⟩ ⟨hc0, hm0⟩ v1 (Sat.start W) hk).mono fun e w' ⟨h1, _, h3⟩ => ⟨h1, h3.below⟩
end Go.Proofs.Ytkokdpnnmkphmaa.Pl
