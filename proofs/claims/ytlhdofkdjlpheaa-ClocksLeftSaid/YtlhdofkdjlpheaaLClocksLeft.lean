/- ClocksLeft walked: over its walk and its plain law. -/
import Derived.Test.YtlhdofkdjlpheaaKClocksLeft
import Derived.Test.YtlhdofkdjlpheaaPClocksLeft
import Derived.Test.YtlhdofkdjlpheaaRow
import Derived.Test.YtlhdofkdjlpheaaRdr
namespace Go.Proofs.Ytlhdofkdjlpheaa.Pl
open Go Go.RowKit Sx Base Own

theorem ClocksLeft_law (a0 : Int) (cs1 : Array Value) (l1 : List Int) (a2 : Int) (W : World) (v0 : (Lit.int .u32 a0).wf = true) (hr1 : (Rdr.arr 2 (Rdr.int .u8)).R W cs1.toList l1) (v2 : (Lit.int .u8 a2).wf = true) : Calls Try.prog 5 #[(.int .u32 a0), (.agg cs1), (.int .u8 a2)] W fun e w' => e = .returned (.bool true) ∧ Below W.heap.size W w' := by
  obtain ⟨n1, e1, v1⟩ := Rdr.arr_int hr1
  obtain rfl : cs1 = (List.map (Value.int .u8) l1).toArray := Array.toList_inj.1 e1
  obtain ⟨k, hk⟩ := ClocksLeft_pure a0 l1 a2 v0 n1 v1 v2
  exact (ClocksLeft.walk k a0 l1 a2 v0 n1 v1 v2 (Sat.start W) hk).mono fun e w' ⟨h1, _, h3⟩ => ⟨h1, h3.below⟩
end Go.Proofs.Ytlhdofkdjlpheaa.Pl
