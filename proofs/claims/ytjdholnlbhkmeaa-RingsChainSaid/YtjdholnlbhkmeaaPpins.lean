/- The plain partialInsertionSort is the kit's. -/
import Derived.Test.YtjdholnlbhkmeaaPpart
namespace Go.Proofs.Ytjdholnlbhkmeaa.Pl
open Go Go.RowKit Sx Base Own QSortuint32uint32

theorem pi_up (kl : List Int → Int → Int → Option (Bool × List Int)) (b n : Nat) (x3 x9 : Int) (hb : b ≤ n) (hn : n ≤ 1000000000000) : ∀ (m j : Nat) (l : List Int) (k : Nat), b - j ≤ m → 1 ≤ j → l.length = n → j ≤ n + 1 → m + 1 ≤ k →
    partialInsertionSortOrdered_uint32.l2 k kl (b : Int) n x3 x9 l (j : Int) = partialInsertionSortOrdered_uint32.j1 kl x3 (Sort.shiftUp Sort.ltInt b j l.toArray).toList x9 := by
  intro m
  induction m with
  | zero =>
    intro j l k hm hj hl hj2 hk
    obtain ⟨k, rfl⟩ : ∃ q, k = q + 1 := ⟨k - 1, by omega⟩
    unfold partialInsertionSortOrdered_uint32.l2 Sort.shiftUp
    rw [if_neg (by simp; omega), if_neg (by omega)]
  | succ m ih =>
    intro j l k hm hj hl hj2 hk
    obtain ⟨k, rfl⟩ : ∃ q, k = q + 1 := ⟨k - 1, by omega⟩
    unfold partialInsertionSortOrdered_uint32.l2 Sort.shiftUp
    by_cases h : j < b
    · have e1 : IntKind.wrap .i64 ((j : Int) + (1 : Int)) = ((j + 1 : Nat) : Int) := n64s (by omega) (by omega)
      have e2 : IntKind.wrap .i64 ((j : Int) - (1 : Int)) = ((j - 1 : Nat) : Int) := n64s (by omega) (by omega)
      rw [if_pos (by simp; omega), if_pos h]
      simp only [e1, e2, Int.toNat_natCast, if_pos (bs (show j < n by omega)), if_pos (bs (show j - 1 < n by omega)), less_is, Option.bind_some, ar_get, ar_swp]
      by_cases h2 : (!Sort.ltInt (l.getD j 0) (l.getD (j - 1) 0)) = true
      · rw [if_pos h2, if_pos h2]
      · rw [if_neg h2, if_neg h2]
        exact ih (j + 1) _ k (by omega) (by omega) (by simp [hl]) (by omega) (by omega)
    · rw [if_neg (by simp; omega), if_neg h]
theorem pi_down (kl : List Int → Int → Int → Option (Bool × List Int)) (n : Nat) (x2 x3 x9 : Int) (hn : n ≤ 1000000000000) (K : Nat) : ∀ (j : Nat) (l : List Int) (k : Nat), j < n → l.length = n → j + 1 + K ≤ k → ∃ k', K ≤ k' ∧
    partialInsertionSortOrdered_uint32.l3 k kl n x2 x9 x3 l (j : Int) = partialInsertionSortOrdered_uint32.j3 k' kl x2 x9 n x3 (Sort.shiftDown Sort.ltInt j l.toArray).toList := by
  intro j
  induction j with
  | zero =>
    intro l k hj hl hk
    obtain ⟨k, rfl⟩ : ∃ q, k = q + 1 := ⟨k - 1, by omega⟩
    unfold partialInsertionSortOrdered_uint32.l3 Sort.shiftDown
    refine ⟨k, by omega, ?_⟩
    rw [if_neg (by simp)]
  | succ j ih =>
    intro l k hj hl hk
    obtain ⟨k, rfl⟩ : ∃ q, k = q + 1 := ⟨k - 1, by omega⟩
    unfold partialInsertionSortOrdered_uint32.l3 Sort.shiftDown
    have e1 : IntKind.wrap .i64 (((j + 1 : Nat) : Int) - (1 : Int)) = (j : Int) := n64s (by omega) (by omega)
    rw [if_pos (by simp; omega)]
    simp only [e1, Int.toNat_natCast, if_pos (bs hj), if_pos (bs (show j < n by omega)), less_is, Option.bind_some, ar_get, ar_swp]
    by_cases h2 : (!Sort.ltInt (l.getD (j + 1) 0) (l.getD j 0)) = true
    · rw [if_pos h2, if_pos h2]
      exact ⟨k, by omega, rfl⟩
    · rw [if_neg h2, if_neg h2]
      exact ih _ k (by omega) (by simp [hl]) (by omega)
theorem pi_scan (kl : List Int → Int → Int → Option (Bool × List Int)) (b n : Nat) (x1 x3 : Int) (l : List Int) (hb : b ≤ n) (hn : n ≤ 1000000000000) (K : Nat) : ∀ (m i k : Nat), b - i ≤ m → 1 ≤ i → i ≤ n → m + 1 + K ≤ k → ∃ k', K ≤ k' ∧
    partialInsertionSortOrdered_uint32.l4 k kl (b : Int) n l x1 x3 (i : Int) = partialInsertionSortOrdered_uint32.j2 k' kl (b : Int) l x1 n x3 ((Sort.scanSorted Sort.ltInt l.toArray b i : Nat) : Int) := by
  intro m
  induction m with
  | zero =>
    intro i k hm h1 hi hk
    obtain ⟨k, rfl⟩ : ∃ q, k = q + 1 := ⟨k - 1, by omega⟩
    unfold partialInsertionSortOrdered_uint32.l4 Sort.scanSorted
    refine ⟨k, by omega, ?_⟩
    rw [if_neg (by simp; omega), if_neg (by rw [Bool.and_eq_true]; exact fun q => by have := of_decide_eq_true q.1; omega)]
  | succ m ih =>
    intro i k hm h1 hi hk
    obtain ⟨k, rfl⟩ : ∃ q, k = q + 1 := ⟨k - 1, by omega⟩
    unfold partialInsertionSortOrdered_uint32.l4 Sort.scanSorted
    by_cases h : i < b
    · have e1 : IntKind.wrap .i64 ((i : Int) + (1 : Int)) = ((i + 1 : Nat) : Int) := n64s (by omega) (by omega)
      have e2 : IntKind.wrap .i64 ((i : Int) - (1 : Int)) = ((i - 1 : Nat) : Int) := n64s (by omega) (by omega)
      rw [if_pos (by simp; omega)]
      simp only [e1, e2, Int.toNat_natCast, if_pos (bs (show i < n by omega)), if_pos (bs (show i - 1 < n by omega)), less_is, Option.bind_some, ar_get]
      by_cases h2 : (!Sort.ltInt (l.getD i 0) (l.getD (i - 1) 0)) = true
      · rw [if_pos h2, if_pos (by rw [h2, Bool.and_true]; exact decide_eq_true h)]
        exact ih (i + 1) k (by omega) (by omega) (by omega) (by omega)
      · rw [if_neg h2, if_neg (by rw [Bool.and_eq_true]; exact fun q => h2 q.2)]
        exact ⟨k, by omega, rfl⟩
    · refine ⟨k, by omega, ?_⟩
      rw [if_neg (by simp; omega), if_neg (by rw [Bool.and_eq_true]; exact fun q => h (of_decide_eq_true q.1))]
theorem scan_le (d : Array Int) (b : Nat) : ∀ (m i : Nat), b - i ≤ m → i ≤ b → i ≤ Sort.scanSorted Sort.ltInt d b i ∧ Sort.scanSorted Sort.ltInt d b i ≤ b := by
  intro m
  induction m with
  | zero =>
    intro i hm hi
    unfold Sort.scanSorted
    rw [if_neg (by rw [Bool.and_eq_true]; exact fun q => by have := of_decide_eq_true q.1; omega)]
    omega
  | succ m ih =>
    intro i hm hi
    unfold Sort.scanSorted
    split
    · rename_i h
      rw [Bool.and_eq_true] at h
      have := of_decide_eq_true h.1
      have := ih (i + 1) (by omega) (by omega)
      omega
    · omega
theorem downSize : ∀ (j : Nat) (d : Array Int), (Sort.shiftDown Sort.ltInt j d).size = d.size := by
  intro j
  induction j with
  | zero => intro d; rfl
  | succ j ih =>
    intro d
    unfold Sort.shiftDown
    split
    · rfl
    · rw [ih]; simp [Sort.swp]
theorem upSize (b : Nat) : ∀ (m j : Nat) (d : Array Int), b - j ≤ m → (Sort.shiftUp Sort.ltInt b j d).size = d.size := by
  intro m
  induction m with
  | zero => intro j d h; unfold Sort.shiftUp; rw [if_neg (by omega)]
  | succ m ih =>
    intro j d h
    unfold Sort.shiftUp
    split
    · split
      · rfl
      · rw [ih _ _ (by omega)]; simp [Sort.swp]
    · rfl
theorem pi_loop (a b n : Nat) (hab : a < b) (hb : b ≤ n) (hn : n ≤ 1000000000000) : ∀ (s i : Nat) (l : List Int) (k : Nat), s ≤ 5 → a + 1 ≤ i → i ≤ b → l.length = n → (s + 1) * (3 * n + 10) ≤ k →
    partialInsertionSortOrdered_uint32.l1 k (b : Int) n (a : Int) l (i : Int) (((5 - s : Nat)) : Int) = some ((Sort.partialIns Sort.ltInt a b s i l.toArray).2, (Sort.partialIns Sort.ltInt a b s i l.toArray).1.toList) := by
  intro s
  induction s with
  | zero =>
    intro i l k hs h1 hi hl hk
    obtain ⟨k, rfl⟩ : ∃ q, k = q + 1 := ⟨k - 1, by omega⟩
    unfold partialInsertionSortOrdered_uint32.l1 Sort.partialIns
    rw [if_neg (by simp)]
  | succ s ih =>
    intro i l k hs h1 hi hl hk
    have hk2 : (s + 1) * (3 * n + 10) + (3 * n + 10) ≤ k := by rw [Nat.succ_mul] at hk; exact hk
    obtain ⟨k, rfl⟩ : ∃ q, k = q + 1 := ⟨k - 1, by omega⟩
    unfold partialInsertionSortOrdered_uint32.l1 Sort.partialIns
    rw [if_pos (by simp; omega)]
    obtain ⟨k1, hk3, q1⟩ := pi_scan (partialInsertionSortOrdered_uint32.l1 k (b : Int) n (a : Int)) b n (a : Int) (((5 - (s + 1) : Nat)) : Int) l hb hn (2 * n + 5) (b - i) i k (Nat.le_refl _) (by omega) (by omega) (by omega)
    rw [q1]
    obtain ⟨g1, g2⟩ := scan_le l.toArray b (b - i) i (Nat.le_refl _) hi
    generalize Sort.scanSorted Sort.ltInt l.toArray b i = i2 at g1 g2 ⊢
    unfold partialInsertionSortOrdered_uint32.j2
    dsimp only
    by_cases hib : i2 = b
    · rw [if_pos (by simp [hib]), if_pos hib]
    · have e1 : IntKind.wrap .i64 ((b : Int) - (a : Int)) = ((b - a : Nat) : Int) := n64s (by omega) (by omega)
      have e2 : IntKind.wrap .i64 ((i2 : Int) - (1 : Int)) = ((i2 - 1 : Nat) : Int) := n64s (by omega) (by omega)
      have e3 : IntKind.wrap .i64 ((i2 : Int) - (a : Int)) = ((i2 - a : Nat) : Int) := n64s (by omega) (by omega)
      have e4 : IntKind.wrap .i64 ((b : Int) - (i2 : Int)) = ((b - i2 : Nat) : Int) := n64s (by omega) (by omega)
      have e5 : IntKind.wrap .i64 ((i2 : Int) + (1 : Int)) = ((i2 + 1 : Nat) : Int) := n64s (by omega) (by omega)
      have e6 : IntKind.wrap .i64 ((((5 - (s + 1) : Nat)) : Int) + (1 : Int)) = ((5 - s : Nat) : Int) := n64s (by omega) (by omega)
      rw [if_neg (by simp; omega), if_neg hib, e1]
      by_cases h50 : b - a < 50
      · rw [if_pos (by simp; omega), if_pos h50]
      · rw [if_neg (by simp; omega), if_neg h50]
        simp only [e2, e3, Int.toNat_natCast, if_pos (bs (show i2 < n by omega)), if_pos (bs (show i2 - 1 < n by omega)), ar_swp]
        have last : ∀ (L : List Int) (q : Nat), L.length = n → n + 2 ≤ q → partialInsertionSortOrdered_uint32.j3 q (partialInsertionSortOrdered_uint32.l1 k (b : Int) n (a : Int)) (b : Int) (i2 : Int) n (((5 - (s + 1) : Nat)) : Int) L =
            some ((Sort.partialIns Sort.ltInt a b s i2 (if b - i2 ≥ 2 then Sort.shiftUp Sort.ltInt b (i2 + 1) L.toArray else L.toArray)).2, (Sort.partialIns Sort.ltInt a b s i2 (if b - i2 ≥ 2 then Sort.shiftUp Sort.ltInt b (i2 + 1) L.toArray else L.toArray)).1.toList) := by
          intro L q hL hq
          unfold partialInsertionSortOrdered_uint32.j3
          rw [e4, e5]
          by_cases h2 : b - i2 ≥ 2
          · rw [if_pos (by simp; omega), if_pos h2, pi_up _ b n _ _ hb hn (b - (i2 + 1)) (i2 + 1) L q (Nat.le_refl _) (by omega) hL (by omega) (by omega)]
            unfold partialInsertionSortOrdered_uint32.j1
            rw [e6]
            have := ih i2 (Sort.shiftUp Sort.ltInt b (i2 + 1) L.toArray).toList k (by omega) (by omega) g2 (by rw [Array.length_toList, upSize b (b - (i2 + 1)) _ _ (Nat.le_refl _)]; simp [hL]) (by omega)
            simpa using this
          · rw [if_neg (by simp; omega), if_neg h2]
            unfold partialInsertionSortOrdered_uint32.j1
            rw [e6]
            exact ih i2 L k (by omega) (by omega) g2 hL (by omega)
        by_cases h2 : i2 - a ≥ 2
        · rw [if_pos (by simp; omega), if_pos h2]
          obtain ⟨k2, hk4, q2⟩ := pi_down (partialInsertionSortOrdered_uint32.l1 k (b : Int) n (a : Int)) n (b : Int) (((5 - (s + 1) : Nat)) : Int) (i2 : Int) hn (n + 2) (i2 - 1) ((l.set i2 (l.getD (i2 - 1) 0)).set (i2 - 1) (l.getD i2 0)) k1 (by omega) (by simp [hl]) (by omega)
          rw [q2, last _ k2 (by rw [Array.length_toList, downSize]; simp [hl]) hk4]
        · rw [if_neg (by simp; omega), if_neg h2]
          exact last _ k1 (by simp [hl]) (by omega)
theorem pins_is (a b n : Nat) (hab : a < b) (hb : b ≤ n) (hn : n ≤ 1000000000000) (l : List Int) (hl : l.length = n) (k : Nat) (hk : 6 * (3 * n + 10) ≤ k) :
    partialInsertionSortOrdered_uint32.f k n l (a : Int) (b : Int) = some ((Sort.partialInsertionSort Sort.ltInt l.toArray a b).2, (Sort.partialInsertionSort Sort.ltInt l.toArray a b).1.toList) := by
  unfold partialInsertionSortOrdered_uint32.f Sort.partialInsertionSort
  have e1 : IntKind.wrap .i64 ((a : Int) + (1 : Int)) = ((a + 1 : Nat) : Int) := n64s (by omega) (by omega)
  rw [e1]
  exact pi_loop a b n hab hb hn 5 (a + 1) l k (by omega) (by omega) (by omega) hl hk
end Go.Proofs.Ytjdholnlbhkmeaa.Pl
