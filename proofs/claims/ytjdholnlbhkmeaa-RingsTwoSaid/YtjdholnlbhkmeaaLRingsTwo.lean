/- RingsTwo walked: over its walk and its plain law. -/
import Derived.Test.YtjdholnlbhkmeaaKRingsTwo
import Derived.Test.YtjdholnlbhkmeaaPRingsTwo
import Derived.Test.YtjdholnlbhkmeaaRow
import Derived.Test.YtjdholnlbhkmeaaRdr
namespace Go.Proofs.Ytjdholnlbhkmeaa.Pl
open Go Go.RowKit Sx Base Own

theorem RingsTwo_law (A0 : Option Addr) (c0 : Nat) (l0 : List Int) (A1 : Option Addr) (c1 : Nat) (l1 : List Int) (A2 : Option Addr) (c2 : Nat) (l2 : List (List Int)) (W : World) (hc0 : l0.length ≤ c0) (hm0 : c0 ≤ maxLen) (hy0 : l0.length ≤ 140737488351232) (v0 : ∀ n ∈ l0, (Lit.int .u32 n).wf = true) (hr0 : Rd .u32 W A0 l0) (hc1 : l1.length ≤ c1) (hm1 : c1 ≤ maxLen) (hy1 : l1.length ≤ 140737488351232) (v1 : ∀ n ∈ l1, (Lit.int .u32 n).wf = true) (hr1 : Rd .u32 W A1 l1) (hc2 : l2.length ≤ c2) (hm2 : c2 ≤ maxLen) (hr2 : Rdr.Row (Rdr.arr 2 (Rdr.int .u32)) W A2 l2) : Calls Try.prog 12 #[(.slice A0 l0.length c0), (.slice A1 l1.length c1), (.slice A2 l2.length c2)] W fun e w' => e = .returned (.bool true) ∧ Below W.heap.size W w' := by
  obtain ⟨k, hk⟩ := RingsTwo_pure l0 l1 l2 hy0 v0 hy1 v1 (Nat.le_trans hc2 hm2) (ra_facts hr2)
  exact (RingsTwo.walk k A0 c0 l0 A1 c1 l1 A2 c2 l2 ⟨hr0, v0⟩ ⟨hc0, hm0⟩ ⟨hr1, v1⟩ ⟨hc1, hm1⟩ hr2 ⟨hc2, hm2⟩ (Sat.start W) hk).mono fun e w' ⟨h1, _, h3⟩ => ⟨h1, h3.below⟩
end Go.Proofs.Ytjdholnlbhkmeaa.Pl
