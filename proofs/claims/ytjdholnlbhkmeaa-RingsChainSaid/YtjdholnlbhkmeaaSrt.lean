/- The plain law of slices.Sort. -/
import Derived.Test.YtjdholnlbhkmeaaKSortuint32uint32
import Derived.Test.YtjdholnlbhkmeaaPpdq
namespace Go.Proofs.Ytjdholnlbhkmeaa.Sx
open Go Go.RowKit Base Own QSortuint32uint32 Pl
theorem sort_pl (l : List Int) (h : l.length ≤ 1000) : ∃ k, Sort_uint32_uint32.f k l.length l = some (l.mergeSort fun x y => decide (x ≤ y)) := by
  refine ⟨pdM l.length + l.length + 3 + 1, ?_⟩
  unfold Sort_uint32_uint32.f
  rw [IntWalk.u64_in _ ⟨by omega, by omega⟩, len_is l.length h, Option.bind_some]
  obtain ⟨r, q1, q2, q3, q4⟩ := pdq_ok l.length h l.length 0 l.length l ((if l.length = 0 then 0 else Nat.log2 l.length + 1 : Nat) : Int) true true (pdM l.length + l.length + 3) (pdM l.length + l.length + 3) (by omega) (by omega) (Nat.le_refl _) rfl (.inl rfl) (by omega) (by omega)
  have q1' : pdqsortOrdered_uint32.f (pdM l.length + l.length + 3 + 1) l.length l (0 : Int) (l.length : Int) ((if l.length = 0 then 0 else Nat.log2 l.length + 1 : Nat) : Int) = some r := q1
  rw [q1', Option.bind_some]
  have hu := Sort.sorted_unique_holds Sort.swo_ltInt (fun x y h1 h2 => by simp [Sort.ltInt] at h1 h2; omega) l.toArray r.toArray (by simpa using q3) (by simpa using q4)
  simp only at hu
  rw [hu]
  congr 2
  funext x y
  by_cases hxy : x ≤ y
  · simp [Sort.ltInt, hxy]
  · simp [Sort.ltInt, hxy]; omega
end Go.Proofs.Ytjdholnlbhkmeaa.Sx
