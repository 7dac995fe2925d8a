/- The pivot lies in the range. -/
import Derived.Test.YtjdholnlbhkmeaaPpins
namespace Go.Proofs.Ytjdholnlbhkmeaa.Pl
open Go Go.RowKit Sx Base Own QSortuint32uint32

theorem ord2 (l : List Int) (a b : Nat) (s : Int) (ha : a < l.length) (hb : b < l.length) : ∃ (c d : Nat) (t : Int), order2Ordered_uint32.f l (a : Int) (b : Int) s = some ((c : Int), (d : Int), t) ∧ (c = a ∨ c = b) ∧ (d = a ∨ d = b) := by
  unfold order2Ordered_uint32.f
  simp only [if_pos (bs ha), if_pos (bs hb), less_is, Option.bind_some]
  split
  · exact ⟨b, a, _, rfl, .inr rfl, .inl rfl⟩
  · exact ⟨a, b, _, rfl, .inl rfl, .inr rfl⟩
theorem med (l : List Int) (a b c : Nat) (s : Int) (ha : a < l.length) (hb : b < l.length) (hc : c < l.length) : ∃ (q : Nat) (t : Int), medianOrdered_uint32.f l (a : Int) (b : Int) (c : Int) s = some ((q : Int), t) ∧ (q = a ∨ q = b ∨ q = c) := by
  unfold medianOrdered_uint32.f
  obtain ⟨a1, b1, t1, e1, h1, h2⟩ := ord2 l a b s ha hb
  rw [e1]; simp only [Option.bind_some]
  obtain ⟨b2, c2, t2, e2, h3, h4⟩ := ord2 l b1 c t1 (by omega) hc
  rw [e2]; simp only [Option.bind_some]
  obtain ⟨a3, b3, t3, e3, h5, h6⟩ := ord2 l a1 b2 t2 (by omega) (by omega)
  rw [e3]; simp only [Option.bind_some]
  exact ⟨b3, t3, rfl, by omega⟩
theorem medAdj (l : List Int) (a : Nat) (s : Int) (h1 : 1 ≤ a) (ha : a + 1 < l.length) (hn : l.length ≤ 1000000000000) : ∃ (q : Nat) (t : Int), medianAdjacentOrdered_uint32.f l (a : Int) s = some ((q : Int), t) ∧ a - 1 ≤ q ∧ q ≤ a + 1 := by
  unfold medianAdjacentOrdered_uint32.f
  have e1 : IntKind.wrap .i64 ((a : Int) - (1 : Int)) = ((a - 1 : Nat) : Int) := n64s (by omega) (by omega)
  have e2 : IntKind.wrap .i64 ((a : Int) + (1 : Int)) = ((a + 1 : Nat) : Int) := n64s (by omega) (by omega)
  rw [e1, e2]
  obtain ⟨q, t, e, h⟩ := med l (a - 1) a (a + 1) s (by omega) (by omega) ha
  rw [e]; simp only [Option.bind_some]
  exact ⟨q, t, rfl, by omega, by omega⟩
theorem piv (l : List Int) (a b : Nat) (hab : a < b) (hb : b ≤ l.length) (hn : l.length ≤ 1000000000000) : ∃ (q : Nat) (t : Int), choosePivotOrdered_uint32.f l (a : Int) (b : Int) = some ((q : Int), t) ∧ a ≤ q ∧ q < b := by
  unfold choosePivotOrdered_uint32.f
  have e0 : IntKind.wrap .i64 ((b : Int) - (a : Int)) = ((b - a : Nat) : Int) := n64s (by omega) (by omega)
  have e1 : IntKind.wrap .i64 (Int.tdiv ((b - a : Nat) : Int) (4 : Int)) = (((b - a) / 4 : Nat) : Int) := n64s (by rw [Int.tdiv_eq_ediv_of_nonneg (by omega)]; omega) (by omega)
  have e2 : IntKind.wrap .i64 ((((b - a) / 4 : Nat) : Int) * (1 : Int)) = (((b - a) / 4 : Nat) : Int) := n64s (by omega) (by omega)
  have e3 : IntKind.wrap .i64 ((((b - a) / 4 : Nat) : Int) * (2 : Int)) = (((b - a) / 4 * 2 : Nat) : Int) := n64s (by omega) (by omega)
  have e4 : IntKind.wrap .i64 ((((b - a) / 4 : Nat) : Int) * (3 : Int)) = (((b - a) / 4 * 3 : Nat) : Int) := n64s (by omega) (by omega)
  have f2 : IntKind.wrap .i64 ((a : Int) + (((b - a) / 4 : Nat) : Int)) = ((a + (b - a) / 4 : Nat) : Int) := n64s (by omega) (by omega)
  have f3 : IntKind.wrap .i64 ((a : Int) + (((b - a) / 4 * 2 : Nat) : Int)) = ((a + (b - a) / 4 * 2 : Nat) : Int) := n64s (by omega) (by omega)
  have f4 : IntKind.wrap .i64 ((a : Int) + (((b - a) / 4 * 3 : Nat) : Int)) = ((a + (b - a) / 4 * 3 : Nat) : Int) := n64s (by omega) (by omega)
  rw [e0, e1, lt_is (by rw [e2, f2]), lt_is (by rw [e3, f3]), lt_is (by rw [e4, f4])]
  have j1 : ∀ (x : Int) (q : Nat), ∃ t, choosePivotOrdered_uint32.j1 x (q : Int) = some ((q : Int), t) := by
    intro x q
    unfold choosePivotOrdered_uint32.j1
    split
    · exact ⟨_, rfl⟩
    · split <;> exact ⟨_, rfl⟩
  by_cases h8 : b - a ≥ 8
  · rw [if_pos (by simp; omega)]
    by_cases h50 : b - a ≥ 50
    · rw [if_pos (by simp; omega)]
      obtain ⟨q1, t1, g1, k1, k2⟩ := medAdj l (a + (b - a) / 4) 0 (by omega) (by omega) hn
      rw [g1]; simp only [Option.bind_some]
      obtain ⟨q2, t2, g2, k3, k4⟩ := medAdj l (a + (b - a) / 4 * 2) t1 (by omega) (by omega) hn
      rw [g2]; simp only [Option.bind_some]
      obtain ⟨q3, t3, g3, k5, k6⟩ := medAdj l (a + (b - a) / 4 * 3) t2 (by omega) (by omega) hn
      rw [g3]; simp only [Option.bind_some]
      unfold choosePivotOrdered_uint32.j2
      obtain ⟨q, t, e, h⟩ := med l q1 q2 q3 t3 (by omega) (by omega) (by omega)
      rw [e]; simp only [Option.bind_some]
      obtain ⟨u, hu⟩ := j1 t q
      exact ⟨q, u, hu, by omega, by omega⟩
    · rw [if_neg (by simp; omega)]
      unfold choosePivotOrdered_uint32.j2
      obtain ⟨q, t, e, h⟩ := med l (a + (b - a) / 4) (a + (b - a) / 4 * 2) (a + (b - a) / 4 * 3) 0 (by omega) (by omega) (by omega)
      rw [e]; simp only [Option.bind_some]
      obtain ⟨u, hu⟩ := j1 t q
      exact ⟨q, u, hu, by omega, by omega⟩
  · rw [if_neg (by simp; omega)]
    obtain ⟨u, hu⟩ := j1 0 (a + (b - a) / 4 * 2)
    exact ⟨_, u, hu, by omega, by omega⟩
end Go.Proofs.Ytjdholnlbhkmeaa.Pl
