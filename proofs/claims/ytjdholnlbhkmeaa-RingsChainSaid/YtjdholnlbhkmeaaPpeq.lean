/- The plain partitionEqual is the kit's. -/
import Derived.Test.YtjdholnlbhkmeaaPrev
import Derived.Sort.LotC
namespace Go.Proofs.Ytjdholnlbhkmeaa.Pl
open Go Go.RowKit Sx Base Own QSortuint32uint32

theorem pe_up (kl : List Int → Int → Int → Option (Int × List Int)) (a j n : Nat) (l : List Int) (ha : a < n) (hj : j < n) (hn : n ≤ 1000000000000) (K : Nat) : ∀ (m i k : Nat), j + 1 - i ≤ m → i ≤ n → m + 1 + K ≤ k → ∃ k', K ≤ k' ∧
    partitionEqualOrdered_uint32.l3 k kl (j : Int) (a : Int) n l (i : Int) = partitionEqualOrdered_uint32.j1 k' kl (a : Int) n l (j : Int) ((Sort.scanUp (fun x => !Sort.ltInt (l.toArray[a]!) x) l.toArray j i : Nat) : Int) := by
  intro m
  induction m with
  | zero =>
    intro i k hm hi hk
    obtain ⟨k, rfl⟩ : ∃ q, k = q + 1 := ⟨k - 1, by omega⟩
    unfold partitionEqualOrdered_uint32.l3 Sort.scanUp
    refine ⟨k, by omega, ?_⟩
    rw [if_neg (by simp; omega), if_neg (by rw [Bool.and_eq_true]; exact fun q => by have := of_decide_eq_true q.1; omega)]
  | succ m ih =>
    intro i k hm hi hk
    obtain ⟨k, rfl⟩ : ∃ q, k = q + 1 := ⟨k - 1, by omega⟩
    unfold partitionEqualOrdered_uint32.l3 Sort.scanUp
    by_cases h : i ≤ j
    · have e1 : IntKind.wrap .i64 ((i : Int) + (1 : Int)) = ((i + 1 : Nat) : Int) := n64s (by omega) (by omega)
      rw [if_pos (by simp; omega)]
      simp only [e1, Int.toNat_natCast, if_pos (bs ha), if_pos (bs (show i < n by omega)), less_is, Option.bind_some, ar_get]
      by_cases h2 : (!Sort.ltInt (l.getD a 0) (l.getD i 0)) = true
      · rw [if_pos h2, if_pos (by rw [h2, Bool.and_true]; exact decide_eq_true h)]
        have := ih (i + 1) k (by omega) (by omega) (by omega)
        simpa only [ar_get] using this
      · rw [if_neg h2, if_neg (by rw [Bool.and_eq_true]; exact fun q => h2 q.2)]
        exact ⟨k, by omega, rfl⟩
    · refine ⟨k, by omega, ?_⟩
      rw [if_neg (by simp; omega), if_neg (by rw [Bool.and_eq_true]; exact fun q => h (of_decide_eq_true q.1))]
theorem pe_down (kl : List Int → Int → Int → Option (Int × List Int)) (a i n : Nat) (l : List Int) (ha : a < n) (hi : 1 ≤ i) (hn : n ≤ 1000000000000) : ∀ (j k : Nat), j < n → j + 1 ≤ k →
    partitionEqualOrdered_uint32.l2 k kl (i : Int) (a : Int) n l (j : Int) = partitionEqualOrdered_uint32.j2 kl (i : Int) l n ((Sort.scanDown (fun x => Sort.ltInt (l.toArray[a]!) x) l.toArray i j : Nat) : Int) := by
  intro j
  induction j with
  | zero =>
    intro k hj hk
    obtain ⟨k, rfl⟩ : ∃ q, k = q + 1 := ⟨k - 1, by omega⟩
    unfold partitionEqualOrdered_uint32.l2 Sort.scanDown
    rw [if_neg (by simp; omega)]
  | succ j ih =>
    intro k hj hk
    obtain ⟨k, rfl⟩ : ∃ q, k = q + 1 := ⟨k - 1, by omega⟩
    unfold partitionEqualOrdered_uint32.l2 Sort.scanDown
    by_cases h : i ≤ j + 1
    · have e1 : IntKind.wrap .i64 (((j + 1 : Nat) : Int) - (1 : Int)) = (j : Int) := n64s (by omega) (by omega)
      rw [if_pos (by simp; omega)]
      simp only [e1, Int.toNat_natCast, if_pos (bs ha), if_pos (bs hj), less_is, Option.bind_some, ar_get]
      by_cases h2 : Sort.ltInt (l.getD a 0) (l.getD (j + 1) 0) = true
      · rw [if_pos h2, if_pos (by rw [h2, Bool.and_true]; exact decide_eq_true h)]
        have := ih k (by omega) (by omega)
        simpa only [ar_get] using this
      · rw [if_neg h2, if_neg (by rw [Bool.and_eq_true]; exact fun q => h2 q.2)]
    · rw [if_neg (by simp; omega), if_neg (by rw [Bool.and_eq_true]; exact fun q => h (of_decide_eq_true q.1))]
theorem pe_loop (a n : Nat) (ha : a < n) (hn : n ≤ 1000000000000) : ∀ (m i j : Nat) (l : List Int) (k : Nat), j + 1 - i ≤ m → 1 ≤ i → i ≤ n → j < n → l.length = n → (m + 1) * (2 * n + 5) ≤ k →
    partitionEqualOrdered_uint32.l1 k (a : Int) n l (i : Int) (j : Int) = some (((Sort.partEqLoop Sort.ltInt a i j l.toArray).1 : Int), (Sort.partEqLoop Sort.ltInt a i j l.toArray).2.toList) := by
  intro m
  induction m with
  | zero =>
    intro i j l k hm h1 hi hj hl hk
    obtain ⟨k, rfl⟩ : ∃ q, k = q + 1 := ⟨k - 1, by omega⟩
    rw [Sort.partEqLoop_eq]
    unfold partitionEqualOrdered_uint32.l1
    obtain ⟨k', hk', e⟩ := pe_up (partitionEqualOrdered_uint32.l1 k (a : Int) n) a j n l ha hj hn (n + 1) (j + 1 - i) i k (Nat.le_refl _) hi (by omega)
    rw [e]
    unfold partitionEqualOrdered_uint32.j1
    rw [pe_down _ a _ n l ha (Nat.le_trans h1 (Sort.scanUp_ge _ _ _ _)) hn j k' hj (by omega)]
    unfold partitionEqualOrdered_uint32.j2
    have q1 := Sort.scanUp_ge (fun x => !Sort.ltInt (l.toArray[a]!) x) l.toArray j i
    have q2 := Sort.scanDown_le (fun x => Sort.ltInt (l.toArray[a]!) x) l.toArray (Sort.scanUp (fun x => !Sort.ltInt (l.toArray[a]!) x) l.toArray j i) j
    generalize Sort.scanUp (fun x => !Sort.ltInt (l.toArray[a]!) x) l.toArray j i = i2 at q1 q2 ⊢
    generalize Sort.scanDown (fun x => Sort.ltInt (l.toArray[a]!) x) l.toArray i2 j = j2 at q2 ⊢
    rw [if_pos (by simp; omega), if_pos (by omega)]
  | succ m ih =>
    intro i j l k hm h1 hi hj hl hk
    have hk2 : (m + 1) * (2 * n + 5) + (2 * n + 5) ≤ k := by rw [Nat.succ_mul] at hk; exact hk
    obtain ⟨k, rfl⟩ : ∃ q, k = q + 1 := ⟨k - 1, by omega⟩
    rw [Sort.partEqLoop_eq]
    unfold partitionEqualOrdered_uint32.l1
    obtain ⟨k', hk', e⟩ := pe_up (partitionEqualOrdered_uint32.l1 k (a : Int) n) a j n l ha hj hn (n + 1) (j + 1 - i) i k (Nat.le_refl _) hi (by omega)
    rw [e]
    unfold partitionEqualOrdered_uint32.j1
    rw [pe_down _ a _ n l ha (Nat.le_trans h1 (Sort.scanUp_ge _ _ _ _)) hn j k' hj (by omega)]
    unfold partitionEqualOrdered_uint32.j2
    have q1 := Sort.scanUp_ge (fun x => !Sort.ltInt (l.toArray[a]!) x) l.toArray j i
    have q2 := Sort.scanDown_le (fun x => Sort.ltInt (l.toArray[a]!) x) l.toArray (Sort.scanUp (fun x => !Sort.ltInt (l.toArray[a]!) x) l.toArray j i) j
    generalize Sort.scanUp (fun x => !Sort.ltInt (l.toArray[a]!) x) l.toArray j i = i2 at q1 q2 ⊢
    generalize Sort.scanDown (fun x => Sort.ltInt (l.toArray[a]!) x) l.toArray i2 j = j2 at q2 ⊢
    by_cases h : i2 > j2
    · rw [if_pos (by simp; omega), if_pos h]
    · have e1 : IntKind.wrap .i64 ((i2 : Int) + (1 : Int)) = ((i2 + 1 : Nat) : Int) := n64s (by omega) (by omega)
      have e2 : IntKind.wrap .i64 ((j2 : Int) - (1 : Int)) = ((j2 - 1 : Nat) : Int) := n64s (by omega) (by omega)
      rw [if_neg (by simp; omega), if_neg h]
      simp only [e1, e2, Int.toNat_natCast, if_pos (bs (show i2 < n by omega)), if_pos (bs (show j2 < n by omega)), ar_swp]
      exact ih (i2 + 1) (j2 - 1) _ k (by omega) (by omega) (by omega) (by omega) (by simp [hl]) (by omega)
theorem peq_is (a b p n : Nat) (hap : a ≤ p) (hpb : p < b) (hb : b ≤ n) (hn : n ≤ 1000000000000) (l : List Int) (hl : l.length = n) (k : Nat) (hk : (n + 1) * (2 * n + 5) ≤ k) :
    partitionEqualOrdered_uint32.f k n l (a : Int) (b : Int) (p : Int) = some (((Sort.partitionEqual Sort.ltInt l.toArray a b p).1 : Int), (Sort.partitionEqual Sort.ltInt l.toArray a b p).2.toList) := by
  unfold partitionEqualOrdered_uint32.f Sort.partitionEqual
  have e1 : IntKind.wrap .i64 ((a : Int) + (1 : Int)) = ((a + 1 : Nat) : Int) := n64s (by omega) (by omega)
  have e2 : IntKind.wrap .i64 ((b : Int) - (1 : Int)) = ((b - 1 : Nat) : Int) := n64s (by omega) (by omega)
  simp only [e1, e2, Int.toNat_natCast, if_pos (bs (show a < n by omega)), if_pos (bs (show p < n by omega)), ar_swp]
  exact pe_loop a n (by omega) hn n (a + 1) (b - 1) _ k (by omega) (by omega) (by omega) (by omega) (by simp [hl]) hk
end Go.Proofs.Ytjdholnlbhkmeaa.Pl
