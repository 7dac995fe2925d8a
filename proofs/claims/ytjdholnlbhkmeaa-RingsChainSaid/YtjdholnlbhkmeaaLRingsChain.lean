/- RingsChain walked: over its walk and its plain law. -/
import Derived.Test.YtjdholnlbhkmeaaKRingsChain
import Derived.Test.YtjdholnlbhkmeaaPRingsChain
import Derived.Test.YtjdholnlbhkmeaaRow
import Derived.Test.YtjdholnlbhkmeaaRdr
namespace Go.Proofs.Ytjdholnlbhkmeaa.Pl
open Go Go.RowKit Sx Base Own

theorem RingsChain_law (a0 : Int) (cs1 : Array Value) (l1 : List Int) (a2 : Int) (W : World) (v0 : (Lit.int .u8 a0).wf = true) (hr1 : (Rdr.arr 2 (Rdr.int .u8)).R W cs1.toList l1) (v2 : (Lit.int .u32 a2).wf = true) : Calls Try.prog 7 #[(.int .u8 a0), (.agg cs1), (.int .u32 a2)] W fun e w' => e = .returned (.bool true) ∧ Below W.heap.size W w' := by
  obtain ⟨n1, e1, v1⟩ := Rdr.arr_int hr1
  obtain rfl : cs1 = (List.map (Value.int .u8) l1).toArray := Array.toList_inj.1 e1
  obtain ⟨k, hk⟩ := RingsChain_pure a0 l1 a2 v0 n1 v1 v2
  exact (RingsChain.walk k a0 l1 a2 v0 n1 v1 v2 (Sat.start W) hk).mono fun e w' ⟨h1, _, h3⟩ => ⟨h1, h3.below⟩
end Go.Proofs.Ytjdholnlbhkmeaa.Pl
