/- The disk that 'written' makes, among the things in memory. -/
import Derived.Test.YtkokdpnnmkphmaaSd
import Derived.Test.YtkokdpnnmkphmaaWrPlain
namespace Go.Proofs.Ytkokdpnnmkphmaa.Sx
open Go Go.RowKit Base Own Disk

theorem disk_written {w w0 : World} {R : List Asn} (S : Sat w0 w R) {A : Option Addr} {c : Nat} {l : List Int} (sure : Int) (hr : Rk .u16 w A l) (hl : l.length ≤ 100000) :
    Calls Try.prog 17 #[.int .i64 8, .slice A l.length c, .int .i64 sure] w fun e w' => ∃ d, e = .returned (.pointer (some ⟨d, 0, none⟩)) ∧ Sat w0 w' (diskA d (wrK l sure l.length) :: R) := by
  have hu : ∀ y ∈ l, 0 ≤ y ∧ y < 65536 := fun y hy => by
    have := hr.wf y hy
    rw [wf_int] at this
    have h1 : IntKind.u16.min = 0 := by decide
    have h2 : IntKind.u16.max = 65535 := by decide
    omega
  refine (Disk.written A c l sure w hl hu hr.rd).mono ?_
  rintro e w' ⟨d, rfl, ⟨F, h1⟩, h2⟩
  exact ⟨d, rfl, S.add (F := F) h2 (Disk.Disk.lower h1 S.below.size) fun k hk => (Disk.Disk.lt h1 k hk).1⟩
end Go.Proofs.Ytkokdpnnmkphmaa.Sx
