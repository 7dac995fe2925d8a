/- ClocksFar walked: over its walk and its plain law. -/
import Derived.Test.YtlhdofkdjlpheaaKClocksFar
import Derived.Test.YtlhdofkdjlpheaaPClocksFar
import Derived.Test.YtlhdofkdjlpheaaRow
import Derived.Test.YtlhdofkdjlpheaaRdr
namespace Go.Proofs.Ytlhdofkdjlpheaa.Pl
open Go Go.RowKit Sx Base Own

theorem ClocksFar_law (a0 : Int) (a1 : Int) (a2 : Int) (W : World) (v0 : (Lit.int .u32 a0).wf = true) (v1 : (Lit.int .u32 a1).wf = true) (v2 : (Lit.int .u8 a2).wf = true) : Calls Try.prog 6 #[(.int .u32 a0), (.int .u32 a1), (.int .u8 a2)] W fun e w' => e = .returned (.bool true) ∧ Below W.heap.size W w' := by
  obtain ⟨k, hk⟩ := ClocksFar_pure a0 a1 a2 v0 v1 v2
  exact (ClocksFar.walk k a0 a1 a2 v0 v1 v2 (Sat.start W) hk).mono fun e w' ⟨h1, _, h3⟩ => ⟨h1, h3.below⟩
end Go.Proofs.Ytlhdofkdjlpheaa.Pl
