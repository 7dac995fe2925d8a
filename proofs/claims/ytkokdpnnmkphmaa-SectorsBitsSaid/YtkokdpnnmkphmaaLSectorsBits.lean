/- SectorsBits walked: over its walk and its plain law. -/
import Derived.Test.YtkokdpnnmkphmaaKSectorsBits
import Derived.Test.YtkokdpnnmkphmaaPSectorsBits
import Derived.Test.YtkokdpnnmkphmaaRow
import Derived.Test.YtkokdpnnmkphmaaRdr
namespace Go.Proofs.Ytkokdpnnmkphmaa.Pl
open Go Go.RowKit Sx Base Own Disk Bytes

theorem SectorsBits_law (cs0 : Array Value) (l0 : List Int) (a1 : Int) (cs2 : Array Value) (l2 : List Int) (W : World) (hr0 : (Rdr.arr 8 (Rdr.int .u8)).R W cs0.toList l0) (v1 : (Lit.int .u8 a1).wf = true) (hr2 : (Rdr.arr 2 (Rdr.int .u8)).R W cs2.toList l2) : Calls Try.prog 9 #[(.agg cs0), (.int .u8 a1), (.agg cs2)] W fun e w' => e = .returned (.bool true) ∧ Below W.heap.size W w' := by
  obtain ⟨n0, e0, v0⟩ := Rdr.arr_int hr0
  obtain rfl : cs0 = (List.map (Value.int .u8) l0).toArray := Array.toList_inj.1 e0
  obtain ⟨n2, e2, v2⟩ := Rdr.arr_int hr2
  obtain rfl : cs2 = (List.map (Value.int .u8) l2).toArray := Array.toList_inj.1 e2
  obtain ⟨k, hk⟩ := SectorsBits_pure l0 a1 l2 n0 v0 v1 n2 v2
  exact (SectorsBits.walk k l0 a1 l2 n0 v0 v1 n2 v2 (Sat.start W) hk).mono fun e w' ⟨h1, _, h3⟩ => ⟨h1, h3.below⟩
end Go.Proofs.Ytkokdpnnmkphmaa.Pl
