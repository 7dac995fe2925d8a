/- WallsClean walked: over its walk and its plain law. -/
import Derived.Test.YtmpkoacpakepfaaKWallsClean
import Derived.Test.YtmpkoacpakepfaaPWallsClean
import Derived.Test.YtmpkoacpakepfaaRow
import Derived.Test.YtmpkoacpakepfaaRdr
namespace Go.Proofs.Ytmpkoacpakepfaa.Pl
open Go Go.RowKit Sx Base Own Disk Bytes

theorem WallsClean_law (A0 : Option Addr) (c0 : Nat) (l0 : List (List Int)) (cs1 : Array Value) (l1 : List Int) (a2 : Int) (W : World) (hc0 : l0.length ≤ c0) (hm0 : c0 ≤ maxLen) (hr0 : RR .u8 W A0 l0) (z0 : Rdr.smL (Rdr.smL (Rdr.smT (α := Int))) l0) (hr1 : (Rdr.arr 64 (Rdr.int .u8)).R W cs1.toList l1) (_z1 : Rdr.smT l1) (v2 : (Lit.int .u8 a2).wf = true) : Calls Try.prog 10 #[(.slice A0 l0.length c0), (.agg cs1), (.int .u8 a2)] W fun e w' => e = .returned (.bool true) ∧ Below W.heap.size W w' := by
  obtain ⟨n1, e1, v1⟩ := Rdr.arr_int hr1
  obtain rfl : cs1 = (List.map (Value.int .u8) l1).toArray := Array.toList_inj.1 e1
  obtain ⟨k, hk⟩ := WallsClean_pure l0 l1 a2 (fun x hx => (z0.2 x hx).1) (fun x hx => (RR.facts hr0 x hx).2) n1 v1 v2
  exact (WallsClean.walk k A0 c0 l0 l1 a2 hr0 ⟨hc0, hm0⟩ z0 n1 v1 v2 (Sat.start W) hk).mono fun e w' ⟨h1, _, h3⟩ => ⟨h1, h3.below⟩
end Go.Proofs.Ytmpkoacpakepfaa.Pl
