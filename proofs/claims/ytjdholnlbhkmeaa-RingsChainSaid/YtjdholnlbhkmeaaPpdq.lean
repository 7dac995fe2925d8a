/- The plain pdqsort sorts. -/
import Derived.Test.YtjdholnlbhkmeaaPbrk
import Derived.Sort.AssemblyPlain
import Derived.Sort.LotD3
namespace Go.Proofs.Ytjdholnlbhkmeaa.Pl
open Go Go.RowKit Sx Base Own QSortuint32uint32

def pdM (n : Nat) : Nat := (n + 3) * (2 * n + 5) + 6 * (3 * n + 10) + 3 * n + 20
/-- What a call is to come to. -/
def Srt (n a b : Nat) (l : List Int) (o : Option (List Int)) : Prop := ∃ r, o = some r ∧ r.length = n ∧ Sort.PermIn a b l.toArray r.toArray ∧ Sort.SortedIn Sort.ltInt a b r.toArray
theorem arr_list (d : Array Int) : d.toList.toArray = d := by simp
theorem pdq_ok (n : Nat) (hn : n ≤ 1000) : ∀ (m a b : Nat) (l : List Int) (lim : Int) (wb wp : Bool) (k kk : Nat), b - a ≤ m → a ≤ b → b ≤ n → l.length = n → Sort.Below Sort.ltInt a b l.toArray → pdM n + m + 1 ≤ k → pdM n + m + 2 ≤ kk →
    Srt n a b l (pdqsortOrdered_uint32.l1 k (pdqsortOrdered_uint32.f kk) n l (a : Int) (b : Int) lim wb wp) := by
  have hM1 : (n + 3) * (2 * n + 5) + 6 * (3 * n + 10) + 3 * n + 20 = pdM n := rfl
  have hS : Sort.SWO Sort.ltInt := Sort.swo_ltInt
  have hM2 : (n + 1) * (2 * n + 5) ≤ (n + 3) * (2 * n + 5) := Nat.mul_le_mul_right _ (by omega)
  intro m
  induction m with
  | zero =>
    intro a b l lim wb wp k kk hm hab hb hl hB hk hkk
    obtain ⟨k, rfl⟩ : ∃ q, k = q + 1 := ⟨k - 1, by omega⟩
    unfold pdqsortOrdered_uint32.l1
    rw [n64s (n := b - a) (by omega) (by omega), if_pos (by simp; omega), ins_is a b n hab hb (by omega) l hl k (by omega)]
    obtain ⟨q1, q2⟩ := Sort.insertionSort_holds hS l.toArray a b hab (by simpa [hl] using hb)
    exact ⟨_, rfl, by rw [Array.length_toList, q1.1]; simpa using hl, by rw [arr_list]; exact q1, by rw [arr_list]; exact q2⟩
  | succ m ih =>
    intro a b l lim wb wp k kk hm hab hb hl hB hk hkk
    obtain ⟨k, rfl⟩ : ∃ q, k = q + 1 := ⟨k - 1, by omega⟩
    obtain ⟨kk, rfl⟩ : ∃ q, kk = q + 1 := ⟨kk - 1, by omega⟩
    have e0 : IntKind.wrap .i64 ((b : Int) - (a : Int)) = ((b - a : Nat) : Int) := n64s (by omega) (by omega)
    have hbl : b ≤ l.toArray.size := by simpa [hl] using hb
    have J4 : ∀ (L : List Int) (p : Nat) (lim2 : Int), L.length = n → Sort.PermIn a b l.toArray L.toArray → a ≤ p → p < b → Srt n a b l (pdqsortOrdered_uint32.j4 k (pdqsortOrdered_uint32.f (kk + 1)) (pdqsortOrdered_uint32.l1 k (pdqsortOrdered_uint32.f (kk + 1)) n) n L (a : Int) (b : Int) (p : Int) lim2) := by
      intro L p lim2 hL hP hp1 hp2
      have hbL : b ≤ L.toArray.size := by simpa [hL] using hb
      unfold pdqsortOrdered_uint32.j4
      rw [part_is a b p n hp1 hp2 hb (by omega) L hL k (by omega), Option.bind_some]
      obtain ⟨g1, g2, hs4, hBa, hBr, hleft, hright⟩ := Sort.round_part (d4 := (Sort.partition Sort.ltInt L.toArray a b p).2.2) (mid := (Sort.partition Sort.ltInt L.toArray a b p).1) (ap := (Sort.partition Sort.ltInt L.toArray a b p).2.1) hS (Sort.partition_holds _) hp1 hp2 hbL (hB.perm hbl hP) rfl
      generalize (Sort.partition Sort.ltInt L.toArray a b p).1 = mid at *
      generalize (Sort.partition Sort.ltInt L.toArray a b p).2.1 = ap at *
      generalize (Sort.partition Sort.ltInt L.toArray a b p).2.2 = d4 at *
      have hd4 : d4.toList.length = n := by rw [Array.length_toList, hs4]; simpa using hL
      have e1 : IntKind.wrap .i64 ((mid : Int) - (a : Int)) = ((mid - a : Nat) : Int) := n64s (by omega) (by omega)
      have e2 : IntKind.wrap .i64 ((b : Int) - (mid : Int)) = ((b - mid : Nat) : Int) := n64s (by omega) (by omega)
      have e3 : IntKind.wrap .i64 ((mid : Int) + (1 : Int)) = ((mid + 1 : Nat) : Int) := n64s (by omega) (by omega)
      dsimp only
      rw [e1, e2, e3]
      simp only [lt_is rfl]
      split
      · obtain ⟨r1, q1, q2, q3, q4⟩ := ih a mid d4.toList lim2 true true kk kk (by omega) (by omega) (by omega) hd4 (by rw [arr_list]; exact hBa) (by omega) (by omega)
        have q1' : pdqsortOrdered_uint32.f (kk + 1) n d4.toList (a : Int) (mid : Int) lim2 = some r1 := q1
        rw [q1', Option.bind_some]
        rw [arr_list] at q3
        obtain ⟨hBL, hfin⟩ := hleft _ q3 q4
        obtain ⟨r2, s1, s2, s3, s4⟩ := ih (mid + 1) b r1 lim2 _ ap k (kk + 1) (by omega) (by omega) hb q2 hBL (by omega) (by omega)
        rw [s1]
        obtain ⟨f1, f2⟩ := hfin _ s3 s4
        exact ⟨r2, rfl, s2, Sort.permIn_trans _ _ _ a b hP f1, f2⟩
      · obtain ⟨r1, q1, q2, q3, q4⟩ := ih (mid + 1) b d4.toList lim2 true true kk kk (by omega) (by omega) hb hd4 (by rw [arr_list]; exact hBr) (by omega) (by omega)
        have q1' : pdqsortOrdered_uint32.f (kk + 1) n d4.toList ((mid + 1 : Nat) : Int) (b : Int) lim2 = some r1 := q1
        rw [q1', Option.bind_some]
        rw [arr_list] at q3
        obtain ⟨hBL, hfin⟩ := hright _ q3 q4
        obtain ⟨r2, s1, s2, s3, s4⟩ := ih a mid r1 lim2 _ ap k (kk + 1) (by omega) (by omega) (by omega) q2 hBL (by omega) (by omega)
        rw [s1]
        obtain ⟨f1, f2⟩ := hfin _ s3 s4
        exact ⟨r2, rfl, s2, Sort.permIn_trans _ _ _ a b hP f1, f2⟩
    have J3 : ∀ (L : List Int) (p : Nat) (lim2 : Int) (wb wp : Bool), L.length = n → Sort.PermIn a b l.toArray L.toArray → a ≤ p → p < b → Srt n a b l (pdqsortOrdered_uint32.j3 k (pdqsortOrdered_uint32.f (kk + 1)) (pdqsortOrdered_uint32.l1 k (pdqsortOrdered_uint32.f (kk + 1)) n) (a : Int) n (p : Int) (b : Int) lim2 wb wp L) := by
      intro L p lim2 wb wp hL hP hp1 hp2
      have hbL : b ≤ L.toArray.size := by simpa [hL] using hb
      unfold pdqsortOrdered_uint32.j3
      by_cases ha : 0 < a
      · have e1 : IntKind.wrap .i64 ((a : Int) - (1 : Int)) = ((a - 1 : Nat) : Int) := n64s (by omega) (by omega)
        rw [if_pos (by simp; omega), e1]
        simp only [Int.toNat_natCast, if_pos (bs (show a - 1 < n by omega)), if_pos (bs (show p < n by omega)), less_is, Option.bind_some]
        by_cases h2 : (!Sort.ltInt (L.getD (a - 1) 0) (L.getD p 0)) = true
        · rw [if_pos h2, peq_is a b p n hp1 hp2 hb (by omega) L hL k (by omega), Option.bind_some]
          obtain ⟨g1, g2, hs4, hB4, hfin⟩ := Sort.round_eq (d4 := (Sort.partitionEqual Sort.ltInt L.toArray a b p).2) (mid := (Sort.partitionEqual Sort.ltInt L.toArray a b p).1) hS (Sort.partitionEqual_holds _) ha hp1 hp2 hbL (hB.perm hbl hP) (by rw [ar_get, ar_get]; simpa using h2) rfl
          generalize (Sort.partitionEqual Sort.ltInt L.toArray a b p).1 = mid at *
          generalize (Sort.partitionEqual Sort.ltInt L.toArray a b p).2 = d4 at *
          obtain ⟨r2, s1, s2, s3, s4⟩ := ih mid b d4.toList lim2 wb wp k (kk + 1) (by omega) g2 hb (by rw [Array.length_toList, hs4]; simpa using hL) (by rw [arr_list]; exact hB4) (by omega) (by omega)
          dsimp only
          rw [s1]
          rw [arr_list] at s3
          obtain ⟨f1, f2⟩ := hfin _ s3 s4
          exact ⟨r2, rfl, s2, Sort.permIn_trans _ _ _ a b hP f1, f2⟩
        · rw [if_neg h2]
          exact J4 L p lim2 hL hP hp1 hp2
      · rw [if_neg (by simp; omega)]
        exact J4 L p lim2 hL hP hp1 hp2
    have J2 : ∀ (L : List Int) (p : Nat) (hint lim2 : Int), L.length = n → Sort.PermIn a b l.toArray L.toArray → a ≤ p → p < b → Srt n a b l (pdqsortOrdered_uint32.j2 k (pdqsortOrdered_uint32.f (kk + 1)) (pdqsortOrdered_uint32.l1 k (pdqsortOrdered_uint32.f (kk + 1)) n) wb wp n (a : Int) (b : Int) lim2 L (p : Int) hint) := by
      intro L p hint lim2 hL hP hp1 hp2
      have hbL : b ≤ L.toArray.size := by simpa [hL] using hb
      unfold pdqsortOrdered_uint32.j2
      split
      · split
        · split
          · rw [pins_is a b n (by omega) hb (by omega) L hL k (by omega), Option.bind_some]
            obtain ⟨q1, q2⟩ := Sort.partialInsertionSort_holds hS L.toArray a b (by omega) hbL (hB.perm hbl hP)
            dsimp only
            split
            · rename_i h
              exact ⟨_, rfl, by rw [Array.length_toList, q1.1]; simpa using hL, by rw [arr_list]; exact Sort.permIn_trans _ _ _ a b hP q1, by rw [arr_list]; exact q2 h⟩
            · exact J3 _ p lim2 wb wp (by rw [Array.length_toList, q1.1]; simpa using hL) (by rw [arr_list]; exact Sort.permIn_trans _ _ _ a b hP q1) hp1 hp2
          · exact J3 L p lim2 wb wp hL hP hp1 hp2
        · exact J3 L p lim2 wb wp hL hP hp1 hp2
      · exact J3 L p lim2 wb wp hL hP hp1 hp2
    have J1 : ∀ (L : List Int) (lim2 : Int), 12 < b - a → L.length = n → Sort.PermIn a b l.toArray L.toArray → Srt n a b l (pdqsortOrdered_uint32.j1 k (pdqsortOrdered_uint32.f (kk + 1)) (pdqsortOrdered_uint32.l1 k (pdqsortOrdered_uint32.f (kk + 1)) n) (a : Int) (b : Int) n wb wp L lim2) := by
      intro L lim2 h12 hL hP
      have hbL : b ≤ L.toArray.size := by simpa [hL] using hb
      unfold pdqsortOrdered_uint32.j1
      obtain ⟨p, t, e1, hp1, hp2⟩ := piv L a b (by omega) (by omega) (by omega)
      rw [e1, Option.bind_some]
      dsimp only
      split
      · rw [rev_is a b n (by omega) hb (by omega) L hL k (by omega), Option.bind_some]
        have q1 := Sort.reverseRange_holds L.toArray a b hab hbL
        have e2 : IntKind.wrap .i64 ((b : Int) - (1 : Int)) = ((b - 1 : Nat) : Int) := n64s (by omega) (by omega)
        have e3 : IntKind.wrap .i64 ((p : Int) - (a : Int)) = ((p - a : Nat) : Int) := n64s (by omega) (by omega)
        have e4 : IntKind.wrap .i64 (((b - 1 : Nat) : Int) - ((p - a : Nat) : Int)) = ((b - 1 - (p - a) : Nat) : Int) := n64s (by omega) (by omega)
        rw [lt_is (by rw [e2, e3, e4])]
        exact J2 _ _ _ _ (by rw [Array.length_toList, q1.1]; simpa using hL) (by rw [arr_list]; exact Sort.permIn_trans _ _ _ a b hP q1) (by omega) (by omega)
      · exact J2 L p t lim2 hL hP hp1 hp2
    unfold pdqsortOrdered_uint32.l1
    rw [e0]
    by_cases h12 : b - a ≤ 12
    · rw [if_pos (by simp; omega), ins_is a b n hab hb (by omega) l hl k (by omega)]
      obtain ⟨q1, q2⟩ := Sort.insertionSort_holds hS l.toArray a b hab hbl
      exact ⟨_, rfl, by rw [Array.length_toList, q1.1]; simpa using hl, by rw [arr_list]; exact q1, by rw [arr_list]; exact q2⟩
    · rw [if_neg (by simp; omega)]
      split
      · rw [heap_is a b n hab hb (by omega) l hl k (by omega)]
        obtain ⟨q1, q2⟩ := Sort.heapSort_holds hS l.toArray a b hab hbl
        exact ⟨_, rfl, by rw [Array.length_toList, q1.1]; simpa using hl, by rw [arr_list]; exact q1, by rw [arr_list]; exact q2⟩
      · split
        · obtain ⟨r, q1, q2, q3⟩ := brk_is a b n hab hb hn l hl k (by omega)
          rw [q1, Option.bind_some]
          exact J1 r _ (by omega) q2 q3
        · exact J1 l _ (by omega) hl (Sort.permIn_refl _ _ _)
end Go.Proofs.Ytjdholnlbhkmeaa.Pl
