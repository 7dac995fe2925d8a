/- The plain insertion sort is the kit's. -/
import Derived.Test.YtjdholnlbhkmeaaDSortuint32uint32
import Derived.Test.YtjdholnlbhkmeaaPh
import Derived.Sort.AssemblyPlain
namespace Go.Proofs.Ytjdholnlbhkmeaa.Pl
open Go Go.RowKit Sx Base Own QSortuint32uint32

theorem ar_get (l : List Int) (i : Nat) : l.toArray[i]! = l.getD i 0 := by
  simp [List.getD_eq_getElem?_getD, getElem!_def]
  cases l[i]? <;> rfl
theorem ar_swp (l : List Int) (i j : Nat) : Sort.swp l.toArray i j = ((l.set i (l.getD j 0)).set j (l.getD i 0)).toArray := by
  unfold Sort.swp
  rw [ar_get, ar_get]
  simp
theorem less_is (x y : Int) : Less_uint32.f x y = some (Sort.ltInt x y) := by
  unfold Less_uint32.f isNaN_uint32.f
  simp [Sort.ltInt]
theorem n64 {n : Nat} (h : n ≤ 4611686018427387904) : IntKind.wrap .i64 (n : Int) = (n : Int) := w64 (by omega) (by omega)
theorem n64s {n : Nat} {x : Int} (hx : x = ((n : Nat) : Int)) (h : n ≤ 4611686018427387904) : IntKind.wrap .i64 x = (n : Int) := by subst hx; exact n64 h
theorem bs {n i : Nat} (h : i < n) : (0 : Int) ≤ (i : Int) ∧ (i : Int) < (n : Int) := by omega
theorem insIn (kl : List Int → Int → Option (List Int)) (a n : Nat) (x : Int) (hn : n ≤ 4611686018427387904) : ∀ (j : Nat) (l : List Int) (k : Nat), l.length = n → j < n → j + 1 ≤ k →
    insertionSortOrdered_uint32.l2 k kl (a : Int) n x l (j : Int) = insertionSortOrdered_uint32.j1 kl x (Sort.insInner Sort.ltInt a j l.toArray).toList := by
  intro j
  induction j with
  | zero =>
    intro l k hl hj hk
    obtain ⟨k, rfl⟩ : ∃ q, k = q + 1 := ⟨k - 1, by omega⟩
    unfold insertionSortOrdered_uint32.l2 Sort.insInner
    rw [if_neg (by simp)]
  | succ j ih =>
    intro l k hl hj hk
    obtain ⟨k, rfl⟩ : ∃ q, k = q + 1 := ⟨k - 1, by omega⟩
    unfold insertionSortOrdered_uint32.l2 Sort.insInner
    have e1 : IntKind.wrap .i64 (((j + 1 : Nat) : Int) - (1 : Int)) = (j : Int) := n64s (by omega) (by omega)
    simp only [e1, Int.toNat_natCast, less_is, Option.bind_some, if_pos (bs hj), if_pos (bs (show j < n by omega)), ar_get, ar_swp]
    by_cases h1 : j + 1 > a
    · rw [if_pos (by simp; omega)]
      by_cases h2 : Sort.ltInt (l.getD (j + 1) 0) (l.getD j 0) = true
      · rw [if_pos h2, if_pos (by rw [h2, Bool.and_true]; exact decide_eq_true h1)]
        exact ih _ _ (by simp [hl]) (by omega) (by omega)
      · rw [if_neg h2, if_neg (by rw [Bool.and_eq_true]; exact fun q => h2 q.2)]
    · rw [if_neg (by simp; omega), if_neg (by simp [h1])]
theorem insLen (a : Nat) : ∀ (j : Nat) (d : Array Int), (Sort.insInner Sort.ltInt a j d).size = d.size := by
  intro j
  induction j with
  | zero => intro d; rfl
  | succ j ih =>
    intro d
    unfold Sort.insInner
    split
    · rw [ih]; simp [Sort.swp]
    · rfl
theorem insOut (a b n : Nat) (hb : b ≤ n) (hn : n ≤ 4611686018427387000) : ∀ (m i : Nat) (l : List Int) (k : Nat), b - i ≤ m → l.length = n → i ≤ n + 1 → m + n + 2 ≤ k →
    insertionSortOrdered_uint32.l1 k (b : Int) (a : Int) n l (i : Int) = some (Sort.insOuter Sort.ltInt a b i l.toArray).toList := by
  intro m
  induction m with
  | zero =>
    intro i l k hm hl hi hk
    obtain ⟨k, rfl⟩ : ∃ q, k = q + 1 := ⟨k - 1, by omega⟩
    unfold insertionSortOrdered_uint32.l1 Sort.insOuter
    rw [if_neg (by simp; omega), if_neg (by omega)]
  | succ m ih =>
    intro i l k hm hl hi hk
    obtain ⟨k, rfl⟩ : ∃ q, k = q + 1 := ⟨k - 1, by omega⟩
    unfold insertionSortOrdered_uint32.l1 Sort.insOuter
    by_cases h : i < b
    · rw [if_pos (by simp; omega), if_pos h, insIn _ a n _ (by omega) i l k hl (by omega) (by omega)]
      unfold insertionSortOrdered_uint32.j1
      rw [n64s (n := i + 1) (by omega) (by omega)]
      have := ih (i + 1) (Sort.insInner Sort.ltInt a i l.toArray).toList k (by omega) (by simp [insLen, hl]) (by omega) (by omega)
      simpa using this
    · rw [if_neg (by simp; omega), if_neg h]
theorem ins_is (a b n : Nat) (hab : a ≤ b) (hb : b ≤ n) (hn : n ≤ 4611686018427387000) (l : List Int) (hl : l.length = n) (k : Nat) (hk : b + n + 2 ≤ k) :
    insertionSortOrdered_uint32.f k n l (a : Int) (b : Int) = some (Sort.insertionSort Sort.ltInt l.toArray a b).toList := by
  unfold insertionSortOrdered_uint32.f Sort.insertionSort
  rw [n64s (n := a + 1) (by omega) (by omega)]
  exact insOut a b n hb hn b (a + 1) l k (by omega) hl (by omega) hk
end Go.Proofs.Ytjdholnlbhkmeaa.Pl
