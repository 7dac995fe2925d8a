/- Plain facts on disks. -/
import Derived.Test.YtkokdpnnmkphmaaPh
import Derived.Test.YtkokdpnnmkphmaaSe
namespace Go.Proofs.Ytkokdpnnmkphmaa.Pl
open Go Go.RowKit Sx Base Own Disk Bytes

theorem wr_ok {D : Dk} {x : Int} {b : List Int} (h0 : 0 ≤ x) (h1 : x < D.seen.length) (hb : b.length ≤ 64) : writeCode D.seen.length x b = 0 ∧ D.writeR x b = D.write x (pad b) := by
  have h : writeCode D.seen.length x b = 0 := by
    have hm : mayOk D.seen.length x = 0 := by unfold mayOk; rw [if_pos ⟨h0, h1⟩]
    unfold writeCode
    rw [hm, if_neg (by omega)]
  exact ⟨h, by unfold Dk.writeR; rw [if_pos h]⟩
theorem blank_at {n q : Nat} (h : q < n) : (Disk.blank n).seen.getD q [] = List.replicate 64 0 := by
  simp only [Disk.blank, List.getD_eq_getElem?_getD, List.getElem?_replicate, h, if_true, Option.getD_some]
theorem blank_len (n : Nat) : (Disk.blank n).seen.length = n ∧ (Disk.blank n).waits.length = 0 := by simp [Disk.blank]
theorem write_seen (D : Dk) (x : Int) (p : List Int) : (D.write x p).seen = D.seen.set x.toNat p ∧ (D.write x p).waits.length = D.waits.length + 1 ∧ (D.write x p).sure = D.sure := by simp [Dk.write]
theorem sync_seen (D : Dk) : D.sync.seen = D.seen ∧ D.sync.waits.length = 0 ∧ D.sync.sure = D.seen := by simp [Dk.sync]
end Go.Proofs.Ytkokdpnnmkphmaa.Pl
