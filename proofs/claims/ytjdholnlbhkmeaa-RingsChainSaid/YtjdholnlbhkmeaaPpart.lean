/- The plain partition is the kit's. -/
import Derived.Test.YtjdholnlbhkmeaaPpeq
namespace Go.Proofs.Ytjdholnlbhkmeaa.Pl
open Go Go.RowKit Sx Base Own QSortuint32uint32

theorem pt_up (kl : List Int → Int → Int → Option (Int × Bool × List Int)) (a j n : Nat) (l : List Int) (ha : a < n) (hj : j < n) (hn : n ≤ 1000000000000) (K : Nat) : ∀ (m i k : Nat), j + 1 - i ≤ m → i ≤ n → m + 1 + K ≤ k → ∃ k', K ≤ k' ∧
    partitionOrdered_uint32.l3 k kl (j : Int) n (a : Int) l (i : Int) = partitionOrdered_uint32.j3 k' kl n (a : Int) l (j : Int) ((Sort.scanUp (fun x => Sort.ltInt x (l.toArray[a]!)) l.toArray j i : Nat) : Int) := by
  intro m
  induction m with
  | zero =>
    intro i k hm hi hk
    obtain ⟨k, rfl⟩ : ∃ q, k = q + 1 := ⟨k - 1, by omega⟩
    unfold partitionOrdered_uint32.l3 Sort.scanUp
    refine ⟨k, by omega, ?_⟩
    rw [if_neg (by simp; omega), if_neg (by rw [Bool.and_eq_true]; exact fun q => by have := of_decide_eq_true q.1; omega)]
  | succ m ih =>
    intro i k hm hi hk
    obtain ⟨k, rfl⟩ : ∃ q, k = q + 1 := ⟨k - 1, by omega⟩
    unfold partitionOrdered_uint32.l3 Sort.scanUp
    by_cases h : i ≤ j
    · have e1 : IntKind.wrap .i64 ((i : Int) + (1 : Int)) = ((i + 1 : Nat) : Int) := n64s (by omega) (by omega)
      rw [if_pos (by simp; omega)]
      simp only [e1, Int.toNat_natCast, if_pos (bs ha), if_pos (bs (show i < n by omega)), less_is, Option.bind_some, ar_get]
      by_cases h2 : Sort.ltInt (l.getD i 0) (l.getD a 0) = true
      · rw [if_pos h2, if_pos (by rw [h2, Bool.and_true]; exact decide_eq_true h)]
        have := ih (i + 1) k (by omega) (by omega) (by omega)
        simpa only [ar_get] using this
      · rw [if_neg h2, if_neg (by rw [Bool.and_eq_true]; exact fun q => h2 q.2)]
        exact ⟨k, by omega, rfl⟩
    · refine ⟨k, by omega, ?_⟩
      rw [if_neg (by simp; omega), if_neg (by rw [Bool.and_eq_true]; exact fun q => h (of_decide_eq_true q.1))]
theorem pt_down (kl : List Int → Int → Int → Option (Int × Bool × List Int)) (a i n : Nat) (l : List Int) (ha : a < n) (hi : 1 ≤ i) (hn : n ≤ 1000000000000) : ∀ (j k : Nat), j < n → j + 1 ≤ k →
    partitionOrdered_uint32.l2 k kl (i : Int) n (a : Int) l (j : Int) = partitionOrdered_uint32.j4 kl (i : Int) (a : Int) n l ((Sort.scanDown (fun x => !Sort.ltInt x (l.toArray[a]!)) l.toArray i j : Nat) : Int) := by
  intro j
  induction j with
  | zero =>
    intro k hj hk
    obtain ⟨k, rfl⟩ : ∃ q, k = q + 1 := ⟨k - 1, by omega⟩
    unfold partitionOrdered_uint32.l2 Sort.scanDown
    rw [if_neg (by simp; omega)]
  | succ j ih =>
    intro k hj hk
    obtain ⟨k, rfl⟩ : ∃ q, k = q + 1 := ⟨k - 1, by omega⟩
    unfold partitionOrdered_uint32.l2 Sort.scanDown
    by_cases h : i ≤ j + 1
    · have e1 : IntKind.wrap .i64 (((j + 1 : Nat) : Int) - (1 : Int)) = (j : Int) := n64s (by omega) (by omega)
      rw [if_pos (by simp; omega)]
      simp only [e1, Int.toNat_natCast, if_pos (bs ha), if_pos (bs hj), less_is, Option.bind_some, ar_get]
      by_cases h2 : (!Sort.ltInt (l.getD (j + 1) 0) (l.getD a 0)) = true
      · rw [if_pos h2, if_pos (by rw [h2, Bool.and_true]; exact decide_eq_true h)]
        have := ih k (by omega) (by omega)
        simpa only [ar_get] using this
      · rw [if_neg h2, if_neg (by rw [Bool.and_eq_true]; exact fun q => h2 q.2)]
    · rw [if_neg (by simp; omega), if_neg (by rw [Bool.and_eq_true]; exact fun q => h (of_decide_eq_true q.1))]
/-- What the loop comes to. -/
def ptEnd (a : Nat) (r : Nat × Array Int) : Option (Int × Bool × List Int) := some ((r.1 : Int), false, (Sort.swp r.2 r.1 a).toList)
theorem pt_loop (a n : Nat) (ha : a < n) (hn : n ≤ 1000000000000) : ∀ (m i j : Nat) (l : List Int) (k : Nat), j + 1 - i ≤ m → 1 ≤ i → i ≤ n → j < n → l.length = n → (m + 1) * (2 * n + 5) ≤ k →
    partitionOrdered_uint32.l1 k n (a : Int) l (i : Int) (j : Int) = ptEnd a (Sort.partLoop Sort.ltInt a i j l.toArray) := by
  intro m
  induction m with
  | zero =>
    intro i j l k hm h1 hi hj hl hk
    obtain ⟨k, rfl⟩ : ∃ q, k = q + 1 := ⟨k - 1, by omega⟩
    rw [Sort.partLoop_eq]
    unfold partitionOrdered_uint32.l1
    obtain ⟨k', hk', e⟩ := pt_up (partitionOrdered_uint32.l1 k n (a : Int)) a j n l ha hj hn (n + 1) (j + 1 - i) i k (Nat.le_refl _) hi (by omega)
    rw [e]
    unfold partitionOrdered_uint32.j3
    rw [pt_down _ a _ n l ha (Nat.le_trans h1 (Sort.scanUp_ge _ _ _ _)) hn j k' hj (by omega)]
    unfold partitionOrdered_uint32.j4
    have q1 := Sort.scanUp_ge (fun x => Sort.ltInt x (l.toArray[a]!)) l.toArray j i
    have q2 := Sort.scanDown_le (fun x => !Sort.ltInt x (l.toArray[a]!)) l.toArray (Sort.scanUp (fun x => Sort.ltInt x (l.toArray[a]!)) l.toArray j i) j
    generalize Sort.scanUp (fun x => Sort.ltInt x (l.toArray[a]!)) l.toArray j i = i2 at q1 q2 ⊢
    generalize Sort.scanDown (fun x => !Sort.ltInt x (l.toArray[a]!)) l.toArray i2 j = j2 at q2 ⊢
    rw [if_pos (by simp; omega), if_pos (c := i2 > j2) (by omega)]
    simp only [Int.toNat_natCast, if_pos (bs ha), if_pos (bs (show j2 < n by omega)), ptEnd, ar_swp]
  | succ m ih =>
    intro i j l k hm h1 hi hj hl hk
    have hk2 : (m + 1) * (2 * n + 5) + (2 * n + 5) ≤ k := by rw [Nat.succ_mul] at hk; exact hk
    obtain ⟨k, rfl⟩ : ∃ q, k = q + 1 := ⟨k - 1, by omega⟩
    rw [Sort.partLoop_eq]
    unfold partitionOrdered_uint32.l1
    obtain ⟨k', hk', e⟩ := pt_up (partitionOrdered_uint32.l1 k n (a : Int)) a j n l ha hj hn (n + 1) (j + 1 - i) i k (Nat.le_refl _) hi (by omega)
    rw [e]
    unfold partitionOrdered_uint32.j3
    rw [pt_down _ a _ n l ha (Nat.le_trans h1 (Sort.scanUp_ge _ _ _ _)) hn j k' hj (by omega)]
    unfold partitionOrdered_uint32.j4
    have q1 := Sort.scanUp_ge (fun x => Sort.ltInt x (l.toArray[a]!)) l.toArray j i
    have q2 := Sort.scanDown_le (fun x => !Sort.ltInt x (l.toArray[a]!)) l.toArray (Sort.scanUp (fun x => Sort.ltInt x (l.toArray[a]!)) l.toArray j i) j
    generalize Sort.scanUp (fun x => Sort.ltInt x (l.toArray[a]!)) l.toArray j i = i2 at q1 q2 ⊢
    generalize Sort.scanDown (fun x => !Sort.ltInt x (l.toArray[a]!)) l.toArray i2 j = j2 at q2 ⊢
    by_cases h : i2 > j2
    · rw [if_pos (by simp; omega), if_pos h]
      simp only [Int.toNat_natCast, if_pos (bs ha), if_pos (bs (show j2 < n by omega)), ptEnd, ar_swp]
    · have e1 : IntKind.wrap .i64 ((i2 : Int) + (1 : Int)) = ((i2 + 1 : Nat) : Int) := n64s (by omega) (by omega)
      have e2 : IntKind.wrap .i64 ((j2 : Int) - (1 : Int)) = ((j2 - 1 : Nat) : Int) := n64s (by omega) (by omega)
      rw [if_neg (by simp; omega), if_neg h]
      simp only [e1, e2, Int.toNat_natCast, if_pos (bs (show i2 < n by omega)), if_pos (bs (show j2 < n by omega)), ar_swp]
      exact ih (i2 + 1) (j2 - 1) _ k (by omega) (by omega) (by omega) (by omega) (by simp [hl]) (by omega)
/-- The list with the pivot in front. -/
def ptL (l : List Int) (a p : Nat) : List Int := (l.set a (l.getD p 0)).set p (l.getD a 0)
theorem pt_up0 (a p b n : Nat) (l : List Int) (ha : a < n) (hb1 : 1 ≤ b) (hb : b ≤ n) (hl : l.length = n) (hn : n ≤ 1000000000000) (K : Nat) : ∀ (m i k : Nat), b - i ≤ m → i ≤ n → m + 1 + K ≤ k → ∃ k', K ≤ k' ∧
    partitionOrdered_uint32.l5 k (b : Int) n (a : Int) l (p : Int) (i : Int) = partitionOrdered_uint32.j1 k' n (a : Int) l (p : Int) (b : Int) ((Sort.scanUp (fun x => Sort.ltInt x ((ptL l a p).toArray[a]!)) (ptL l a p).toArray (b - 1) i : Nat) : Int) := by
  have eb : IntKind.wrap .i64 ((b : Int) - (1 : Int)) = ((b - 1 : Nat) : Int) := n64s (by omega) (by omega)
  intro m
  induction m with
  | zero =>
    intro i k hm hi hk
    obtain ⟨k, rfl⟩ : ∃ q, k = q + 1 := ⟨k - 1, by omega⟩
    unfold partitionOrdered_uint32.l5 Sort.scanUp
    refine ⟨k, by omega, ?_⟩
    rw [eb, if_neg (by simp; omega), if_neg (by rw [Bool.and_eq_true]; exact fun q => by have := of_decide_eq_true q.1; omega)]
  | succ m ih =>
    intro i k hm hi hk
    obtain ⟨k, rfl⟩ : ∃ q, k = q + 1 := ⟨k - 1, by omega⟩
    unfold partitionOrdered_uint32.l5 Sort.scanUp
    by_cases h : i ≤ b - 1
    · have e1 : IntKind.wrap .i64 ((i : Int) + (1 : Int)) = ((i + 1 : Nat) : Int) := n64s (by omega) (by omega)
      rw [eb, if_pos (by simp; omega)]
      simp only [e1, Int.toNat_natCast, if_pos (bs ha), if_pos (bs (show i < n by omega)), less_is, Option.bind_some, ar_get]
      by_cases h2 : Sort.ltInt ((ptL l a p).getD i 0) ((ptL l a p).getD a 0) = true
      · rw [if_pos (show Sort.ltInt (((l.set a (l.getD p 0)).set p (l.getD a 0)).getD i 0) (((l.set a (l.getD p 0)).set p (l.getD a 0)).getD a 0) = true from h2), if_pos (by rw [h2, Bool.and_true]; exact decide_eq_true h)]
        have := ih (i + 1) k (by omega) (by omega) (by omega)
        simpa only [ar_get] using this
      · rw [if_neg (show ¬ Sort.ltInt (((l.set a (l.getD p 0)).set p (l.getD a 0)).getD i 0) (((l.set a (l.getD p 0)).set p (l.getD a 0)).getD a 0) = true from h2), if_neg (by rw [Bool.and_eq_true]; exact fun q => h2 q.2)]
        exact ⟨k, by omega, rfl⟩
    · refine ⟨k, by omega, ?_⟩
      rw [eb, if_neg (by simp; omega), if_neg (by rw [Bool.and_eq_true]; exact fun q => h (of_decide_eq_true q.1))]
theorem pt_down0 (a p i n : Nat) (l : List Int) (ha : a < n) (hi : 1 ≤ i) (hl : l.length = n) (hn : n ≤ 1000000000000) (K : Nat) : ∀ (j k : Nat), j < n → j + 1 + K ≤ k → ∃ k', K ≤ k' ∧
    partitionOrdered_uint32.l4 k (i : Int) n (a : Int) l (p : Int) (j : Int) = partitionOrdered_uint32.j2 k' (i : Int) (a : Int) n l (p : Int) ((Sort.scanDown (fun x => !Sort.ltInt x ((ptL l a p).toArray[a]!)) (ptL l a p).toArray i j : Nat) : Int) := by
  intro j
  induction j with
  | zero =>
    intro k hj hk
    obtain ⟨k, rfl⟩ : ∃ q, k = q + 1 := ⟨k - 1, by omega⟩
    unfold partitionOrdered_uint32.l4 Sort.scanDown
    refine ⟨k, by omega, ?_⟩
    rw [if_neg (by simp; omega)]
  | succ j ih =>
    intro k hj hk
    obtain ⟨k, rfl⟩ : ∃ q, k = q + 1 := ⟨k - 1, by omega⟩
    unfold partitionOrdered_uint32.l4 Sort.scanDown
    by_cases h : i ≤ j + 1
    · have e1 : IntKind.wrap .i64 (((j + 1 : Nat) : Int) - (1 : Int)) = (j : Int) := n64s (by omega) (by omega)
      rw [if_pos (by simp; omega)]
      simp only [e1, Int.toNat_natCast, if_pos (bs ha), if_pos (bs hj), less_is, Option.bind_some, ar_get]
      by_cases h2 : (!Sort.ltInt ((ptL l a p).getD (j + 1) 0) ((ptL l a p).getD a 0)) = true
      · rw [if_pos (show (!Sort.ltInt (((l.set a (l.getD p 0)).set p (l.getD a 0)).getD (j + 1) 0) (((l.set a (l.getD p 0)).set p (l.getD a 0)).getD a 0)) = true from h2), if_pos (by rw [h2, Bool.and_true]; exact decide_eq_true h)]
        have := ih k (by omega) (by omega)
        simpa only [ar_get] using this
      · rw [if_neg (show ¬ (!Sort.ltInt (((l.set a (l.getD p 0)).set p (l.getD a 0)).getD (j + 1) 0) (((l.set a (l.getD p 0)).set p (l.getD a 0)).getD a 0)) = true from h2), if_neg (by rw [Bool.and_eq_true]; exact fun q => h2 q.2)]
        exact ⟨k, by omega, rfl⟩
    · refine ⟨k, by omega, ?_⟩
      rw [if_neg (by simp; omega), if_neg (by rw [Bool.and_eq_true]; exact fun q => h (of_decide_eq_true q.1))]
theorem part_is (a b p n : Nat) (hap : a ≤ p) (hpb : p < b) (hb : b ≤ n) (hn : n ≤ 1000000000000) (l : List Int) (hl : l.length = n) (k : Nat) (hk : (n + 3) * (2 * n + 5) ≤ k) :
    partitionOrdered_uint32.f k n l (a : Int) (b : Int) (p : Int) = some (((Sort.partition Sort.ltInt l.toArray a b p).1 : Int), (Sort.partition Sort.ltInt l.toArray a b p).2.1, (Sort.partition Sort.ltInt l.toArray a b p).2.2.toList) := by
  have hk1 : (n + 1) * (2 * n + 5) + (2 * n + 5) + (2 * n + 5) ≤ k := by
    have : (n + 3) * (2 * n + 5) = (n + 1) * (2 * n + 5) + (2 * n + 5) + (2 * n + 5) := by rw [show n + 3 = n + 1 + 1 + 1 from rfl, Nat.succ_mul, Nat.succ_mul]
    omega
  unfold partitionOrdered_uint32.f Sort.partition
  have e1 : IntKind.wrap .i64 ((a : Int) + (1 : Int)) = ((a + 1 : Nat) : Int) := n64s (by omega) (by omega)
  have e2 : IntKind.wrap .i64 ((b : Int) - (1 : Int)) = ((b - 1 : Nat) : Int) := n64s (by omega) (by omega)
  simp only [e1, if_pos (bs (show a < n by omega)), if_pos (bs (show p < n by omega)), ar_swp]
  obtain ⟨k1, hk2, q1⟩ := pt_up0 a p b n l (by omega) (by omega) hb hl hn ((n + 1) * (2 * n + 5) + (2 * n + 5)) (b - (a + 1)) (a + 1) k (Nat.le_refl _) (by omega) (by omega)
  rw [q1]
  unfold partitionOrdered_uint32.j1
  rw [e2]
  have g1 := Sort.scanUp_ge (fun x => Sort.ltInt x ((ptL l a p).toArray[a]!)) (ptL l a p).toArray (b - 1) (a + 1)
  obtain ⟨k2, hk3, q2⟩ := pt_down0 a p (Sort.scanUp (fun x => Sort.ltInt x ((ptL l a p).toArray[a]!)) (ptL l a p).toArray (b - 1) (a + 1)) n l (by omega) (by omega) hl hn ((n + 1) * (2 * n + 5)) (b - 1) k1 (by omega) (by omega)
  rw [q2]
  unfold partitionOrdered_uint32.j2
  have g2 := Sort.scanDown_le (fun x => !Sort.ltInt x ((ptL l a p).toArray[a]!)) (ptL l a p).toArray (Sort.scanUp (fun x => Sort.ltInt x ((ptL l a p).toArray[a]!)) (ptL l a p).toArray (b - 1) (a + 1)) (b - 1)
  have eL : (l.set a (l.getD p 0)).set p (l.getD a 0) = ptL l a p := rfl
  simp only [eL, ar_get]
  simp only [ar_get] at g1 g2
  have lL : (ptL l a p).length = n := by unfold ptL; simp [hl]
  generalize Sort.scanUp (fun x => Sort.ltInt x ((ptL l a p).getD a 0)) (ptL l a p).toArray (b - 1) (a + 1) = i2 at g1 g2 ⊢
  generalize Sort.scanDown (fun x => !Sort.ltInt x ((ptL l a p).getD a 0)) (ptL l a p).toArray i2 (b - 1) = j2 at g2 ⊢
  by_cases h : i2 > j2
  · rw [if_pos (show decide ((i2 : Int) > (j2 : Int)) = true by simp; omega), if_pos h]
    simp only [Int.toNat_natCast, if_pos (bs (show a < n by omega)), if_pos (bs (show j2 < n by omega)), ar_swp]
    rfl
  · have e3 : IntKind.wrap .i64 ((i2 : Int) + (1 : Int)) = ((i2 + 1 : Nat) : Int) := n64s (by omega) (by omega)
    have e4 : IntKind.wrap .i64 ((j2 : Int) - (1 : Int)) = ((j2 - 1 : Nat) : Int) := n64s (by omega) (by omega)
    rw [if_neg (show ¬ decide ((i2 : Int) > (j2 : Int)) = true by simp; omega), if_neg h]
    simp only [e3, e4, Int.toNat_natCast, if_pos (bs (show i2 < n by omega)), if_pos (bs (show j2 < n by omega)), ar_swp]
    rw [pt_loop a n (by omega) hn n (i2 + 1) (j2 - 1) _ k2 (by omega) (by omega) (by omega) (by omega) (by simp [hl]) hk3]
    rfl
end Go.Proofs.Ytjdholnlbhkmeaa.Pl
