/- ClocksOrder walked: over its walk and its plain law. -/
import Derived.Test.YtlhdofkdjlpheaaKClocksOrder
import Derived.Test.YtlhdofkdjlpheaaPClocksOrder
import Derived.Test.YtlhdofkdjlpheaaRow
import Derived.Test.YtlhdofkdjlpheaaRdr
namespace Go.Proofs.Ytlhdofkdjlpheaa.Pl
open Go Go.RowKit Sx Base Own

theorem ClocksOrder_law (A0 : Option Addr) (c0 : Nat) (l0 : List Int) (a1 : Int) (W : World) (hc0 : l0.length ≤ c0) (hm0 : c0 ≤ maxLen) (hy0 : l0.length ≤ 140737488351232) (v0 : ∀ n ∈ l0, (Lit.int .u8 n).wf = true) (hr0 : Rd .u8 W A0 l0) (v1 : (Lit.int .u8 a1).wf = true) : Calls Try.prog 8 #[(.slice A0 l0.length c0), (.int .u8 a1)] W fun e w' => e = .returned (.bool true) ∧ Below W.heap.size W w' := by
  obtain ⟨k, hk⟩ := ClocksOrder_pure l0 a1 hy0 v0 v1
  exact (ClocksOrder.walk k A0 c0 l0 a1 ⟨hr0, v0⟩ ⟨hc0, hm0⟩ v1 (Sat.start W) hk).mono fun e w' ⟨h1, _, h3⟩ => ⟨h1, h3.below⟩
end Go.Proofs.Ytlhdofkdjlpheaa.Pl
