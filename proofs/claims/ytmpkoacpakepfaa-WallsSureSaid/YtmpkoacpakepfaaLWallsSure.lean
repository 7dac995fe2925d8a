/- WallsSure walked: over its walk and its plain law. -/
import Derived.Test.YtmpkoacpakepfaaKWallsSure
import Derived.Test.YtmpkoacpakepfaaPWallsSure
import Derived.Test.YtmpkoacpakepfaaRow
import Derived.Test.YtmpkoacpakepfaaRdr
namespace Go.Proofs.Ytmpkoacpakepfaa.Pl
open Go Go.RowKit Sx Base Own Disk Bytes

theorem WallsSure_law (cs0 : Array Value) (y0 : List (List Int) × Int × Int × Int × Unit) (A1 : Option Addr) (c1 : Nat) (l1 : List Int) (W : World) (hr0 : (Rdr.pair (Rdr.sl (Rdr.sl (Rdr.int .u8))) (Rdr.pair (Rdr.int .u8) (Rdr.pair (Rdr.int .u64) (Rdr.pair (Rdr.int .u8) Rdr.unit)))).R W cs0.toList y0) (z0 : (Rdr.smP (Rdr.smL (Rdr.smL Rdr.smT)) (Rdr.smP Rdr.smT (Rdr.smP Rdr.smT (Rdr.smP Rdr.smT Rdr.smT)))) y0) (hc1 : l1.length ≤ c1) (hm1 : c1 ≤ maxLen) (hy1 : l1.length ≤ 140737488351232) (v1 : ∀ n ∈ l1, (Lit.int .u8 n).wf = true) (hr1 : Rd .u8 W A1 l1) : Calls Try.prog 4 #[(.agg cs0), (.slice A1 l1.length c1)] W fun e w' => e = .returned (.bool true) ∧ Below W.heap.size W w' := by
  obtain ⟨p2000, q2000, e2000, f2000, g2000⟩ := hr0
  obtain ⟨A2000, c2000, e2050, hc2000, hm2000, hr2000⟩ := f2000
  obtain ⟨p2001, q2001, e2001, f2001, g2001⟩ := g2000
  obtain ⟨e2051, v2001⟩ := f2001
  obtain ⟨p2002, q2002, e2002, f2002, g2002⟩ := g2001
  obtain ⟨e2052, v2002⟩ := f2002
  obtain ⟨p2003, q2003, e2003, f2003, g2003⟩ := g2002
  obtain ⟨e2053, v2003⟩ := f2003
  have eu : q2003 = [] := g2003
  obtain rfl : cs0 = #[(.slice A2000 y0.1.length c2000), (.int .u8 y0.2.1), (.int .u64 y0.2.2.1), (.int .u8 y0.2.2.2.1)] := Array.toList_inj.1 (by rw [e2000, e2050, e2001, e2051, e2002, e2052, e2003, e2053, eu]; rfl)
  obtain ⟨k, hk⟩ := WallsSure_pure y0.1 y0.2.1 y0.2.2.1 y0.2.2.2.1 l1 (fun x hx => (z0.1.2 x hx).1) (fun x hx => (RR.facts hr2000 x hx).2) v2001 v2002 v2003 hy1 v1
  exact (WallsSure.walk k A2000 c2000 y0.1 y0.2.1 y0.2.2.1 y0.2.2.2.1 A1 c1 l1 hr2000 ⟨hc2000, hm2000⟩ z0.1 v2001 v2002 v2003 ⟨hr1, v1⟩ ⟨hc1, hm1⟩ (Sat.start W) hk).mono fun e w' ⟨h1, _, h3⟩ => ⟨h1, h3.below⟩
end Go.Proofs.Ytmpkoacpakepfaa.Pl
