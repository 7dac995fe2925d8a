/- RingsShift walked: over its walk and its plain law. -/
import Derived.Test.YtjdholnlbhkmeaaKRingsShift
import Derived.Test.YtjdholnlbhkmeaaPRingsShift
import Derived.Test.YtjdholnlbhkmeaaRow
import Derived.Test.YtjdholnlbhkmeaaRdr
namespace Go.Proofs.Ytjdholnlbhkmeaa.Pl
open Go Go.RowKit Sx Base Own

theorem RingsShift_law (A0 : Option Addr) (c0 : Nat) (l0 : List Int) (A1 : Option Addr) (c1 : Nat) (l1 : List Int) (cs2 : Array Value) (l2 : List Int) (W : World) (hc0 : l0.length ≤ c0) (hm0 : c0 ≤ maxLen) (hy0 : l0.length ≤ 140737488351232) (v0 : ∀ n ∈ l0, (Lit.int .u32 n).wf = true) (hr0 : Rd .u32 W A0 l0) (hc1 : l1.length ≤ c1) (hm1 : c1 ≤ maxLen) (hy1 : l1.length ≤ 140737488351232) (v1 : ∀ n ∈ l1, (Lit.int .u32 n).wf = true) (hr1 : Rd .u32 W A1 l1) (hr2 : (Rdr.arr 3 (Rdr.int .u32)).R W cs2.toList l2) : Calls Try.prog 10 #[(.slice A0 l0.length c0), (.slice A1 l1.length c1), (.agg cs2)] W fun e w' => e = .returned (.bool true) ∧ Below W.heap.size W w' := by
  obtain ⟨n2, e2, v2⟩ := Rdr.arr_int hr2
  obtain rfl : cs2 = (List.map (Value.int .u32) l2).toArray := Array.toList_inj.1 e2
  obtain ⟨k, hk⟩ := RingsShift_pure l0 l1 l2 hy0 v0 hy1 v1 n2 v2
  exact (RingsShift.walk k A0 c0 l0 A1 c1 l1 l2 ⟨hr0, v0⟩ ⟨hc0, hm0⟩ ⟨hr1, v1⟩ ⟨hc1, hm1⟩ n2 v2 (Sat.start W) hk).mono fun e w' ⟨h1, _, h3⟩ => ⟨h1, h3.below⟩
end Go.Proofs.Ytjdholnlbhkmeaa.Pl
