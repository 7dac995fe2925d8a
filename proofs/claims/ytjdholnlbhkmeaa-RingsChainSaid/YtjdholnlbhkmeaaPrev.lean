/- The plain reverseRange, and the scans, are the kit's. -/
import Derived.Test.YtjdholnlbhkmeaaPheap
namespace Go.Proofs.Ytjdholnlbhkmeaa.Pl
open Go Go.RowKit Sx Base Own QSortuint32uint32

theorem rev_loop (n : Nat) (hn : n ≤ 1000000000000) : ∀ (m i j : Nat) (l : List Int) (k : Nat), j - i ≤ m → i ≤ n → j < n → l.length = n → m + 1 ≤ k →
    reverseRangeOrdered_uint32.l1 k n l (i : Int) (j : Int) = some (Sort.reverseLoop i j l.toArray).toList := by
  intro m
  induction m with
  | zero =>
    intro i j l k hm hi hj hl hk
    obtain ⟨k, rfl⟩ : ∃ q, k = q + 1 := ⟨k - 1, by omega⟩
    unfold reverseRangeOrdered_uint32.l1 Sort.reverseLoop
    rw [if_neg (by simp; omega), if_neg (by omega)]
  | succ m ih =>
    intro i j l k hm hi hj hl hk
    obtain ⟨k, rfl⟩ : ∃ q, k = q + 1 := ⟨k - 1, by omega⟩
    unfold reverseRangeOrdered_uint32.l1 Sort.reverseLoop
    by_cases h : i < j
    · have e1 : IntKind.wrap .i64 ((i : Int) + (1 : Int)) = ((i + 1 : Nat) : Int) := n64s (by omega) (by omega)
      have e2 : IntKind.wrap .i64 ((j : Int) - (1 : Int)) = ((j - 1 : Nat) : Int) := n64s (by omega) (by omega)
      rw [if_pos (by simp; omega), if_pos h]
      simp only [e1, e2, Int.toNat_natCast, if_pos (bs hj), if_pos (bs (show i < n by omega)), ar_swp]
      exact ih _ _ _ k (by omega) (by omega) (by omega) (by simp [hl]) (by omega)
    · rw [if_neg (by simp; omega), if_neg h]
theorem rev_is (a b n : Nat) (hab : a < b) (hb : b ≤ n) (hn : n ≤ 1000000000000) (l : List Int) (hl : l.length = n) (k : Nat) (hk : n + 2 ≤ k) :
    reverseRangeOrdered_uint32.f k n l (a : Int) (b : Int) = some (Sort.reverseRange l.toArray a b).toList := by
  unfold reverseRangeOrdered_uint32.f Sort.reverseRange
  rw [n64s (n := b - 1) (by omega) (by omega)]
  exact rev_loop n hn n a (b - 1) l k (by omega) (by omega) (by omega) hl (by omega)
end Go.Proofs.Ytjdholnlbhkmeaa.Pl
