/- breakPatterns puts a range into another order. -/
import Derived.Test.YtjdholnlbhkmeaaPpiv
import Derived.Test.YtjdholnlbhkmeaaPlen
import Derived.Sort.Lot0
namespace Go.Proofs.Ytjdholnlbhkmeaa.Pl
open Go Go.RowKit Sx Base Own QSortuint32uint32

theorem and_le (x : Int) (m : Nat) (hm : m < 2 ^ 63) : 0 ≤ bitv .and .u64 x (m : Int) ∧ bitv .and .u64 x (m : Int) ≤ (m : Int) := by
  have e : (BitVec.ofInt 64 (m : Int)).toNat = m := by
    rw [BitVec.toNat_ofInt]; omega
  have h1 : ((BitVec.ofInt 64 x) &&& (BitVec.ofInt 64 (m : Int))).toNat ≤ m := by
    rw [BitVec.toNat_and, e]; exact Nat.and_le_right
  have h2 : bitv .and .u64 x (m : Int) = (((BitVec.ofInt 64 x) &&& (BitVec.ofInt 64 (m : Int))).toNat : Int) := by
    show IntKind.wrap .u64 _ = _
    refine IntWalk.u64_in _ ?_
    change 0 ≤ ((((BitVec.ofInt 64 x) &&& (BitVec.ofInt 64 (m : Int))).toNat : Nat) : Int) ∧ ((((BitVec.ofInt 64 x) &&& (BitVec.ofInt 64 (m : Int))).toNat : Nat) : Int) ≤ 18446744073709551615
    omega
  rw [h2]; omega
theorem len_is (n : Nat) (h : n ≤ 1000) : Len.f (n : Int) = some ((if n = 0 then 0 else Nat.log2 n + 1 : Nat) : Int) := by
  have := List.all_eq_true.1 len_ok n (List.mem_range.2 (by omega))
  simpa using this
theorem brk_loop (a b n L : Nat) (hab : a + 8 ≤ b) (hb : b ≤ n) (hn : n ≤ 1000) (hL : 2 ^ L ≤ 2 * (b - a)) (hL2 : L ≤ 20) : ∀ (m i : Nat) (x : Int) (l : List Int) (k : Nat), a + (b - a) / 4 * 2 + 2 - i ≤ m → a ≤ i → l.length = n → m + 1 ≤ k →
    ∃ r, breakPatternsOrdered_uint32.l1 k (a : Int) (b : Int) ((2 ^ L : Nat) : Int) n x l (i : Int) = some r ∧ r.length = n ∧ Sort.PermIn a b l.toArray r.toArray := by
  have e0 : IntKind.wrap .i64 ((b : Int) - (a : Int)) = ((b - a : Nat) : Int) := n64s (by omega) (by omega)
  have e1 : IntKind.wrap .i64 (Int.tdiv ((b - a : Nat) : Int) (4 : Int)) = (((b - a) / 4 : Nat) : Int) := n64s (by rw [Int.tdiv_eq_ediv_of_nonneg (by omega)]; omega) (by omega)
  have e3 : IntKind.wrap .i64 ((((b - a) / 4 : Nat) : Int) * (2 : Int)) = (((b - a) / 4 * 2 : Nat) : Int) := n64s (by omega) (by omega)
  have f3 : IntKind.wrap .i64 ((a : Int) + (((b - a) / 4 * 2 : Nat) : Int)) = ((a + (b - a) / 4 * 2 : Nat) : Int) := n64s (by omega) (by omega)
  have f4 : IntKind.wrap .i64 (((a + (b - a) / 4 * 2 : Nat) : Int) + (1 : Int)) = ((a + (b - a) / 4 * 2 + 1 : Nat) : Int) := n64s (by omega) (by omega)
  have hp : 1 ≤ 2 ^ L := Nat.one_le_two_pow
  have g1 : IntKind.wrap .u64 (((2 ^ L : Nat) : Int) - (1 : Int)) = ((2 ^ L - 1 : Nat) : Int) := by
    rw [IntWalk.u64_in _ ⟨by omega, by omega⟩]; omega
  intro m
  induction m with
  | zero =>
    intro i x l k hm hi hl hk
    obtain ⟨k, rfl⟩ : ∃ q, k = q + 1 := ⟨k - 1, by omega⟩
    unfold breakPatternsOrdered_uint32.l1
    rw [e0, e1, e3, f3, f4, if_neg (by simp; omega)]
    exact ⟨l, rfl, hl, Sort.permIn_refl _ _ _⟩
  | succ m ih =>
    intro i x l k hm hi hl hk
    obtain ⟨k, rfl⟩ : ∃ q, k = q + 1 := ⟨k - 1, by omega⟩
    unfold breakPatternsOrdered_uint32.l1
    rw [e0, e1, e3, f3, f4]
    by_cases h : i ≤ a + (b - a) / 4 * 2 + 1
    · rw [if_pos (by simp; omega)]
      obtain ⟨r, hr⟩ : ∃ r, Next.f x = some r := ⟨_, rfl⟩
      rw [hr, Option.bind_some, g1]
      obtain ⟨o, ho, ho2⟩ : ∃ o : Nat, bitv .and .u64 r.1 ((2 ^ L - 1 : Nat) : Int) = (o : Int) ∧ o ≤ 2 ^ L - 1 := by
        obtain ⟨q1, q2⟩ := and_le r.1 (2 ^ L - 1) (by omega)
        exact ⟨(bitv .and .u64 r.1 ((2 ^ L - 1 : Nat) : Int)).toNat, by omega, by omega⟩
      rw [ho, lt_is (n64 (by omega))]
      have fin : ∀ c : Nat, c < b - a → ∃ q, breakPatternsOrdered_uint32.j1 (breakPatternsOrdered_uint32.l1 k (a : Int) (b : Int) ((2 ^ L : Nat) : Int) n) (a : Int) n (i : Int) r l (c : Int) = some q ∧ q.length = n ∧ Sort.PermIn a b l.toArray q.toArray := by
        intro c hc
        unfold breakPatternsOrdered_uint32.j1
        have h1 : IntKind.wrap .i64 ((a : Int) + (c : Int)) = ((a + c : Nat) : Int) := n64s (by omega) (by omega)
        have h2 : IntKind.wrap .i64 ((i : Int) + (1 : Int)) = ((i + 1 : Nat) : Int) := n64s (by omega) (by omega)
        simp only [h1, h2, Int.toNat_natCast, if_pos (bs (show a + c < n by omega)), if_pos (bs (show i < n by omega))]
        obtain ⟨q, q1, q2, q3⟩ := ih (i + 1) r.2 ((l.set i (l.getD (a + c) 0)).set (a + c) (l.getD i 0)) k (by omega) (by omega) (by simp [hl]) (by omega)
        refine ⟨q, q1, q2, Sort.permIn_trans _ _ _ a b ?_ q3⟩
        rw [← ar_swp]
        exact Sort.swp_permIn _ a b i (a + c) hi (by omega) (by omega) (by omega) (by simp [hl]; omega)
      by_cases h2 : o ≥ b - a
      · rw [if_pos (by simp; omega), lt_is (n64s (n := o - (b - a)) (by omega) (by omega))]
        exact fin _ (by omega)
      · rw [if_neg (by simp; omega)]
        exact fin _ (by omega)
    · rw [if_neg (by simp; omega)]
      exact ⟨l, rfl, hl, Sort.permIn_refl _ _ _⟩
theorem brk_is (a b n : Nat) (hab : a ≤ b) (hb : b ≤ n) (hn : n ≤ 1000) (l : List Int) (hl : l.length = n) (k : Nat) (hk : n + 5 ≤ k) :
    ∃ r, breakPatternsOrdered_uint32.f k n l (a : Int) (b : Int) = some r ∧ r.length = n ∧ Sort.PermIn a b l.toArray r.toArray := by
  have e0 : IntKind.wrap .i64 ((b : Int) - (a : Int)) = ((b - a : Nat) : Int) := n64s (by omega) (by omega)
  unfold breakPatternsOrdered_uint32.f
  rw [e0]
  by_cases h8 : b - a ≥ 8
  · have e1 : IntKind.wrap .i64 (Int.tdiv ((b - a : Nat) : Int) (4 : Int)) = (((b - a) / 4 : Nat) : Int) := n64s (by rw [Int.tdiv_eq_ediv_of_nonneg (by omega)]; omega) (by omega)
    have e3 : IntKind.wrap .i64 ((((b - a) / 4 : Nat) : Int) * (2 : Int)) = (((b - a) / 4 * 2 : Nat) : Int) := n64s (by omega) (by omega)
    have f3 : IntKind.wrap .i64 ((a : Int) + (((b - a) / 4 * 2 : Nat) : Int)) = ((a + (b - a) / 4 * 2 : Nat) : Int) := n64s (by omega) (by omega)
    have f4 : IntKind.wrap .i64 (((a + (b - a) / 4 * 2 : Nat) : Int) - (1 : Int)) = ((a + (b - a) / 4 * 2 - 1 : Nat) : Int) := n64s (by omega) (by omega)
    have hne : b - a ≠ 0 := by omega
    have h1 : 2 ^ (b - a).log2 ≤ b - a := Nat.log2_self_le hne
    have h2 : (b - a).log2 < 10 := (Nat.log2_lt hne).2 (by omega)
    have h3 : 2 ^ ((b - a).log2 + 1) ≤ 2 * (b - a) := by rw [Nat.pow_succ]; omega
    have hN : nextPowerOfTwo.f ((b - a : Nat) : Int) = some ((2 ^ ((b - a).log2 + 1) : Nat) : Int) := by
      unfold nextPowerOfTwo.f
      rw [IntWalk.u64_in _ ⟨by omega, by omega⟩, len_is (b - a) (by omega), if_neg hne, Option.bind_some, if_pos (by omega)]
      rw [Int.toNat_natCast, Nat.min_eq_left (by omega), Int.one_mul]
      have hp : ((2 : Int) ^ ((b - a).log2 + 1)) = ((2 ^ ((b - a).log2 + 1) : Nat) : Int) := by simp
      rw [hp, IntWalk.u64_in _ ⟨Int.natCast_nonneg _, Int.ofNat_le.2 (show (2 ^ ((b - a).log2 + 1) : Nat) ≤ 18446744073709551615 by omega)⟩]
      rfl
    rw [if_pos (by simp; omega), hN, e1, e3, f3, lt_is rfl, Option.bind_some, lt_is f4]
    exact brk_loop a b n _ (by omega) hb hn h3 (by omega) (n + 3) _ _ l k (by omega) (by omega) hl (by omega)
  · rw [if_neg (by simp; omega)]
    exact ⟨l, rfl, hl, Sort.permIn_refl _ _ _⟩
end Go.Proofs.Ytjdholnlbhkmeaa.Pl
