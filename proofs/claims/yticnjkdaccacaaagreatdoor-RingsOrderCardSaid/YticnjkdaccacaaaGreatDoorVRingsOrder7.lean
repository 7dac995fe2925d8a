/- Texts of this work, one behind the other. -/
import Derived.Test.YticnjkdaccacaaaGreatDoorVRingsOrder6
import Derived.Sort.AssemblyPlain
import Derived.Sort.LotC
import Derived.Sort.Lot0
import Derived.Sort.LotD3
import Derived.Test.YticnjkdaccacaaaGreatDoorProg
section
/- The plain insertion sort is the kit's. -/
namespace Go.Proofs.YticnjkdaccacaaaGreatDoor.Pl
open Go Go.RowKit Sx Base Own QSortuint32uint32

theorem ar_get (l : List Int) (i : Nat) : l.toArray[i]! = l.getD i 0 := by
  simp [List.getD_eq_getElem?_getD, getElem!_def]
  cases l[i]? <;> rfl
theorem ar_swp (l : List Int) (i j : Nat) : Sort.swp l.toArray i j = ((l.set i (l.getD j 0)).set j (l.getD i 0)).toArray := by
  unfold Sort.swp
  rw [ar_get, ar_get]
  simp
theorem less_is (x y : Int) : Less_uint32.f x y = some (Sort.ltInt x y) := by
  unfold Less_uint32.f isNaN_uint32.f
  simp [Sort.ltInt]
theorem n64 {n : Nat} (h : n ≤ 4611686018427387904) : IntKind.wrap .i64 (n : Int) = (n : Int) := w64 (by omega) (by omega)
theorem n64s {n : Nat} {x : Int} (hx : x = ((n : Nat) : Int)) (h : n ≤ 4611686018427387904) : IntKind.wrap .i64 x = (n : Int) := by subst hx; exact n64 h
theorem bs {n i : Nat} (h : i < n) : (0 : Int) ≤ (i : Int) ∧ (i : Int) < (n : Int) := by omega
theorem insIn (kl : List Int → Int → Option (List Int)) (a n : Nat) (x : Int) (hn : n ≤ 4611686018427387904) : ∀ (j : Nat) (l : List Int) (k : Nat), l.length = n → j < n → j + 1 ≤ k →
    insertionSortOrdered_uint32.l2 k kl (a : Int) n x l (j : Int) = insertionSortOrdered_uint32.j1 kl x (Sort.insInner Sort.ltInt a j l.toArray).toList := by
  intro j
  induction j with
  | zero =>
    intro l k hl hj hk
    obtain ⟨k, rfl⟩ : ∃ q, k = q + 1 := ⟨k - 1, by omega⟩
    unfold insertionSortOrdered_uint32.l2 Sort.insInner
    rw [if_neg (by simp)]
  | succ j ih =>
    intro l k hl hj hk
    obtain ⟨k, rfl⟩ : ∃ q, k = q + 1 := ⟨k - 1, by omega⟩
    unfold insertionSortOrdered_uint32.l2 Sort.insInner
    have e1 : IntKind.wrap .i64 (((j + 1 : Nat) : Int) - (1 : Int)) = (j : Int) := n64s (by omega) (by omega)
    simp only [e1, Int.toNat_natCast, less_is, Option.bind_some, if_pos (bs hj), if_pos (bs (show j < n by omega)), ar_get, ar_swp]
    by_cases h1 : j + 1 > a
    · rw [if_pos (by simp; omega)]
      by_cases h2 : Sort.ltInt (l.getD (j + 1) 0) (l.getD j 0) = true
      · rw [if_pos h2, if_pos (by rw [h2, Bool.and_true]; exact decide_eq_true h1)]
        exact ih _ _ (by simp [hl]) (by omega) (by omega)
      · rw [if_neg h2, if_neg (by rw [Bool.and_eq_true]; exact fun q => h2 q.2)]
    · rw [if_neg (by simp; omega), if_neg (by simp [h1])]
theorem insLen (a : Nat) : ∀ (j : Nat) (d : Array Int), (Sort.insInner Sort.ltInt a j d).size = d.size := by
  intro j
  induction j with
  | zero => intro d; rfl
  | succ j ih =>
    intro d
    unfold Sort.insInner
    split
    · rw [ih]; simp [Sort.swp]
    · rfl
theorem insOut (a b n : Nat) (hb : b ≤ n) (hn : n ≤ 4611686018427387000) : ∀ (m i : Nat) (l : List Int) (k : Nat), b - i ≤ m → l.length = n → i ≤ n + 1 → m + n + 2 ≤ k →
    insertionSortOrdered_uint32.l1 k (b : Int) (a : Int) n l (i : Int) = some (Sort.insOuter Sort.ltInt a b i l.toArray).toList := by
  intro m
  induction m with
  | zero =>
    intro i l k hm hl hi hk
    obtain ⟨k, rfl⟩ : ∃ q, k = q + 1 := ⟨k - 1, by omega⟩
    unfold insertionSortOrdered_uint32.l1 Sort.insOuter
    rw [if_neg (by simp; omega), if_neg (by omega)]
  | succ m ih =>
    intro i l k hm hl hi hk
    obtain ⟨k, rfl⟩ : ∃ q, k = q + 1 := ⟨k - 1, by omega⟩
    unfold insertionSortOrdered_uint32.l1 Sort.insOuter
    by_cases h : i < b
    · rw [if_pos (by simp; omega), if_pos h, insIn _ a n _ (by omega) i l k hl (by omega) (by omega)]
      unfold insertionSortOrdered_uint32.j1
      rw [n64s (n := i + 1) (by omega) (by omega)]
      have := ih (i + 1) (Sort.insInner Sort.ltInt a i l.toArray).toList k (by omega) (by simp [insLen, hl]) (by omega) (by omega)
      simpa using this
    · rw [if_neg (by simp; omega), if_neg h]
theorem ins_is (a b n : Nat) (hab : a ≤ b) (hb : b ≤ n) (hn : n ≤ 4611686018427387000) (l : List Int) (hl : l.length = n) (k : Nat) (hk : b + n + 2 ≤ k) :
    insertionSortOrdered_uint32.f k n l (a : Int) (b : Int) = some (Sort.insertionSort Sort.ltInt l.toArray a b).toList := by
  unfold insertionSortOrdered_uint32.f Sort.insertionSort
  rw [n64s (n := a + 1) (by omega) (by omega)]
  exact insOut a b n hb hn b (a + 1) l k (by omega) hl (by omega) hk
end Go.Proofs.YticnjkdaccacaaaGreatDoor.Pl
end
section
/- The plain heap sort is the kit's. -/
namespace Go.Proofs.YticnjkdaccacaaaGreatDoor.Pl
open Go Go.RowKit Sx Base Own QSortuint32uint32

theorem siftSize (hi first : Nat) : ∀ (m root : Nat) (d : Array Int), hi - root ≤ m → (Sort.siftDown Sort.ltInt hi first root d).size = d.size := by
  intro m
  induction m with
  | zero => intro root d h; unfold Sort.siftDown; rw [dif_pos (by omega)]
  | succ m ih =>
    intro root d h
    unfold Sort.siftDown
    split
    · rfl
    · split
      · split
        · rfl
        · split
          · rw [ih _ _ (by omega)]; simp [Sort.swp]
          · rfl
      · split
        · rfl
        · rw [ih _ _ (by omega)]; simp [Sort.swp]
theorem sift_j (hi first n : Nat) (hn : n ≤ 1000000000000) (hf : first + hi ≤ n) (kl : List Int → Int → Option (List Int)) (l : List Int) (root c : Nat) (hl : l.length = n) (hr : root < hi) (hc : c < hi) :
    siftDownOrdered_uint32.j1 kl (first : Int) (root : Int) n l (c : Int) = if (!Sort.ltInt (l.getD (first + root) 0) (l.getD (first + c) 0)) = true then some l else kl ((l.set (first + root) (l.getD (first + c) 0)).set (first + c) (l.getD (first + root) 0)) (c : Int) := by
  unfold siftDownOrdered_uint32.j1
  have e1 : IntKind.wrap .i64 ((first : Int) + (root : Int)) = ((first + root : Nat) : Int) := n64s (by omega) (by omega)
  have e2 : IntKind.wrap .i64 ((first : Int) + (c : Int)) = ((first + c : Nat) : Int) := n64s (by omega) (by omega)
  simp only [e1, e2, Int.toNat_natCast, less_is, Option.bind_some, if_pos (bs (show first + root < n by omega)), if_pos (bs (show first + c < n by omega))]
theorem sift_is (hi first n : Nat) (hn : n ≤ 1000000000000) (hf : first + hi ≤ n) : ∀ (m root : Nat) (l : List Int) (k : Nat), hi - root ≤ m → root ≤ n → l.length = n → m + 1 ≤ k →
    siftDownOrdered_uint32.l1 k (hi : Int) (first : Int) n l (root : Int) = some (Sort.siftDown Sort.ltInt hi first root l.toArray).toList := by
  intro m
  induction m with
  | zero =>
    intro root l k hm hr hl hk
    obtain ⟨k, rfl⟩ : ∃ q, k = q + 1 := ⟨k - 1, by omega⟩
    unfold siftDownOrdered_uint32.l1 Sort.siftDown
    have e0 : IntKind.wrap .i64 ((2 : Int) * (root : Int)) = ((2 * root : Nat) : Int) := n64s (by omega) (by omega)
    have e1 : IntKind.wrap .i64 (((2 * root : Nat) : Int) + (1 : Int)) = ((2 * root + 1 : Nat) : Int) := n64s (by omega) (by omega)
    rw [lt_is (by rw [e0, e1]), if_pos (by simp; omega), dif_pos (by omega)]
  | succ m ih =>
    intro root l k hm hr hl hk
    obtain ⟨k, rfl⟩ : ∃ q, k = q + 1 := ⟨k - 1, by omega⟩
    unfold siftDownOrdered_uint32.l1 Sort.siftDown
    have e0 : IntKind.wrap .i64 ((2 : Int) * (root : Int)) = ((2 * root : Nat) : Int) := n64s (by omega) (by omega)
    have e1 : IntKind.wrap .i64 (((2 * root : Nat) : Int) + (1 : Int)) = ((2 * root + 1 : Nat) : Int) := n64s (by omega) (by omega)
    rw [lt_is (by rw [e0, e1])]
    by_cases h1 : 2 * root + 1 ≥ hi
    · rw [if_pos (by simp; omega), dif_pos h1]
    · have e2 : IntKind.wrap .i64 (((2 * root + 1 : Nat) : Int) + (1 : Int)) = ((2 * root + 2 : Nat) : Int) := n64s (by omega) (by omega)
      have e3 : IntKind.wrap .i64 ((first : Int) + ((2 * root + 1 : Nat) : Int)) = ((first + (2 * root + 1) : Nat) : Int) := n64s (by omega) (by omega)
      have e4 : IntKind.wrap .i64 (((first + (2 * root + 1) : Nat) : Int) + (1 : Int)) = ((first + (2 * root + 1) + 1 : Nat) : Int) := n64s (by omega) (by omega)
      rw [if_neg (by simp; omega), dif_neg h1]
      simp only [e2, e3, e4, Int.toNat_natCast, less_is, Option.bind_some, ar_get, ar_swp]
      have last : ∀ c, c < hi → root < c → (siftDownOrdered_uint32.j1 (siftDownOrdered_uint32.l1 k (hi : Int) (first : Int) n) (first : Int) (root : Int) n l (c : Int)) = some (if (!Sort.ltInt (l.getD (first + root) 0) (l.getD (first + c) 0)) = true then l.toArray else Sort.siftDown Sort.ltInt hi first c ((l.set (first + root) (l.getD (first + c) 0)).set (first + c) (l.getD (first + root) 0)).toArray).toList := by
        intro c hc hrc
        rw [sift_j hi first n hn hf _ l root c hl (by omega) hc]
        split
        · rfl
        · exact ih c _ k (by omega) (by omega) (by simp [hl]) (by omega)
      by_cases h2 : 2 * root + 2 < hi
      · rw [if_pos (by simp; omega), if_pos (bs (show first + (2 * root + 1) < n by omega)), if_pos (bs (show first + (2 * root + 1) + 1 < n by omega))]
        by_cases h3 : Sort.ltInt (l.getD (first + (2 * root + 1)) 0) (l.getD (first + (2 * root + 1) + 1) 0) = true
        · rw [if_pos h3, if_pos (by rw [h3, Bool.and_true]; exact decide_eq_true h2), last (2 * root + 2) h2 (by omega), dif_pos h2]
        · rw [if_neg h3, if_neg (by rw [Bool.and_eq_true]; exact fun q => h3 q.2), last (2 * root + 1) (by omega) (by omega)]
      · rw [if_neg (by simp; omega), if_neg (by rw [Bool.and_eq_true]; exact fun q => h2 (of_decide_eq_true q.1)), last (2 * root + 1) (by omega) (by omega)]
theorem siftf_is (hi first n root : Nat) (hn : n ≤ 1000000000000) (hf : first + hi ≤ n) (hr : root ≤ n) (l : List Int) (hl : l.length = n) (k : Nat) (hk : hi + 1 ≤ k) (x y z : Int) (hx : x = (root : Int)) (hy : y = (hi : Int)) (hz : z = (first : Int)) :
    siftDownOrdered_uint32.f k n l x y z = some (Sort.siftDown Sort.ltInt hi first root l.toArray).toList := by
  subst hx hy hz
  exact sift_is hi first n hn hf hi root l k (by omega) hr hl hk
theorem pop_is (first n : Nat) (hn : n ≤ 1000000000000) : ∀ (q : Nat) (l : List Int) (k : Nat), first + q ≤ n → l.length = n → n + 1 ≤ k →
    heapSortOrdered_uint32.l2 (q + 1 + k) (first : Int) n l ((q : Int) - 1) = some (Sort.heapPop Sort.ltInt first q l.toArray).toList := by
  intro q
  induction q with
  | zero =>
    intro l k hq hl hk
    rw [show 0 + 1 + k = k + 1 from by omega]
    unfold heapSortOrdered_uint32.l2 Sort.heapPop
    rw [if_neg (by simp)]
  | succ q ih =>
    intro l k hq hl hk
    rw [show q + 1 + 1 + k = (q + 1 + k) + 1 from by omega]
    unfold heapSortOrdered_uint32.l2 Sort.heapPop
    have e0 : (((q + 1 : Nat) : Int) - 1) = (q : Int) := by omega
    have e1 : IntKind.wrap .i64 ((first : Int) + (q : Int)) = ((first + q : Nat) : Int) := n64s (by omega) (by omega)
    have e2 : IntKind.wrap .i64 ((q : Int) - (1 : Int)) = (q : Int) - 1 := w64 (by omega) (by omega)
    rw [e0, if_pos (by simp)]
    simp only [e1, e2, Int.toNat_natCast, if_pos (bs (show first + q < n by omega)), if_pos (bs (show first < n by omega)), ar_swp]
    rw [siftf_is q first n 0 hn (by omega) (by omega) _ (by simp [hl]) (q + 1 + k) (by omega) (0 : Int) _ _ rfl rfl rfl, Option.bind_some]
    exact ih _ k (by omega) (by rw [Array.length_toList, siftSize q first q 0 _ (by omega)]; simp [hl]) hk
theorem build_is (a b n : Nat) (hab : a ≤ b) (hb : b ≤ n) (hn : n ≤ 1000000000000) : ∀ (q : Nat) (l : List Int) (k : Nat), q ≤ n + 1 → l.length = n → n + 1 ≤ k →
    heapSortOrdered_uint32.l1 (q + 1 + k) n (b : Int) (a : Int) l ((q : Int) - 1) = heapSortOrdered_uint32.l2 k (a : Int) n (Sort.heapBuild Sort.ltInt (b - a) a q l.toArray).toList (((b - a : Nat) : Int) - 1) := by
  intro q
  have e0 : IntKind.wrap .i64 ((b : Int) - (a : Int)) = ((b - a : Nat) : Int) := n64s (by omega) (by omega)
  have e3 : IntKind.wrap .i64 (((b - a : Nat) : Int) - (1 : Int)) = ((b - a : Nat) : Int) - 1 := w64 (by omega) (by omega)
  induction q with
  | zero =>
    intro l k hq hl hk
    rw [show 0 + 1 + k = k + 1 from by omega]
    unfold heapSortOrdered_uint32.l1 Sort.heapBuild
    rw [if_neg (by simp), lt_is (by rw [e0, e3])]
  | succ q ih =>
    intro l k hq hl hk
    rw [show q + 1 + 1 + k = (q + 1 + k) + 1 from by omega]
    unfold heapSortOrdered_uint32.l1 Sort.heapBuild
    have e1 : (((q + 1 : Nat) : Int) - 1) = (q : Int) := by omega
    have e2 : IntKind.wrap .i64 ((q : Int) - (1 : Int)) = (q : Int) - 1 := w64 (by omega) (by omega)
    rw [e1, if_pos (by simp), siftf_is (b - a) a n q hn (by omega) (by omega) l hl (q + 1 + k) (by omega) _ _ _ rfl e0 rfl, Option.bind_some, e2]
    exact ih _ k (by omega) (by rw [Array.length_toList, siftSize (b - a) a (b - a) q _ (by omega)]; simp [hl]) hk
theorem buildSize (hi first : Nat) : ∀ (q : Nat) (d : Array Int), (Sort.heapBuild Sort.ltInt hi first q d).size = d.size := by
  intro q
  induction q with
  | zero => intro d; rfl
  | succ q ih => intro d; unfold Sort.heapBuild; rw [ih, siftSize hi first hi q _ (by omega)]
theorem heap_is (a b n : Nat) (hab : a ≤ b) (hb : b ≤ n) (hn : n ≤ 1000000000000) (l : List Int) (hl : l.length = n) (k : Nat) (hk : 3 * n + 10 ≤ k) :
    heapSortOrdered_uint32.f k n l (a : Int) (b : Int) = some (Sort.heapSort Sort.ltInt l.toArray a b).toList := by
  unfold heapSortOrdered_uint32.f Sort.heapSort
  have e0 : IntKind.wrap .i64 ((b : Int) - (a : Int)) = ((b - a : Nat) : Int) := n64s (by omega) (by omega)
  have e3 : IntKind.wrap .i64 (((b - a : Nat) : Int) - (1 : Int)) = ((b - a : Nat) : Int) - 1 := w64 (by omega) (by omega)
  have e4 : (((b - a : Nat) : Int) - 1).tdiv 2 = ((((b - a - 1) / 2 + 1 : Nat) : Int) - 1) := by
    rcases Nat.eq_zero_or_pos (b - a) with h | h
    · rw [h]; rfl
    · rw [show ((b - a : Nat) : Int) - 1 = ((b - a - 1 : Nat) : Int) from by omega, Int.tdiv_eq_ediv_of_nonneg (by omega)]; omega
  rw [lt_is (by rw [e0, e3, e4, w64 (by omega) (by omega)])]
  obtain ⟨k1, rfl⟩ : ∃ q, k = ((b - a - 1) / 2 + 1) + 1 + q := ⟨k - (((b - a - 1) / 2 + 1) + 1), by omega⟩
  rw [build_is a b n hab hb hn _ l k1 (by omega) hl (by omega)]
  obtain ⟨k2, rfl⟩ : ∃ q, k1 = (b - a) + 1 + q := ⟨k1 - ((b - a) + 1), by omega⟩
  exact pop_is a n hn (b - a) _ k2 (by omega) (by rw [Array.length_toList, buildSize]; simp [hl]) (by omega)
end Go.Proofs.YticnjkdaccacaaaGreatDoor.Pl
end
section
/- The plain reverseRange, and the scans, are the kit's. -/
namespace Go.Proofs.YticnjkdaccacaaaGreatDoor.Pl
open Go Go.RowKit Sx Base Own QSortuint32uint32

theorem rev_loop (n : Nat) (hn : n ≤ 1000000000000) : ∀ (m i j : Nat) (l : List Int) (k : Nat), j - i ≤ m → i ≤ n → j < n → l.length = n → m + 1 ≤ k →
    reverseRangeOrdered_uint32.l1 k n l (i : Int) (j : Int) = some (Sort.reverseLoop i j l.toArray).toList := by
  intro m
  induction m with
  | zero =>
    intro i j l k hm hi hj hl hk
    obtain ⟨k, rfl⟩ : ∃ q, k = q + 1 := ⟨k - 1, by omega⟩
    unfold reverseRangeOrdered_uint32.l1 Sort.reverseLoop
    rw [if_neg (by simp; omega), if_neg (by omega)]
  | succ m ih =>
    intro i j l k hm hi hj hl hk
    obtain ⟨k, rfl⟩ : ∃ q, k = q + 1 := ⟨k - 1, by omega⟩
    unfold reverseRangeOrdered_uint32.l1 Sort.reverseLoop
    by_cases h : i < j
    · have e1 : IntKind.wrap .i64 ((i : Int) + (1 : Int)) = ((i + 1 : Nat) : Int) := n64s (by omega) (by omega)
      have e2 : IntKind.wrap .i64 ((j : Int) - (1 : Int)) = ((j - 1 : Nat) : Int) := n64s (by omega) (by omega)
      rw [if_pos (by simp; omega), if_pos h]
      simp only [e1, e2, Int.toNat_natCast, if_pos (bs hj), if_pos (bs (show i < n by omega)), ar_swp]
      exact ih _ _ _ k (by omega) (by omega) (by omega) (by simp [hl]) (by omega)
    · rw [if_neg (by simp; omega), if_neg h]
theorem rev_is (a b n : Nat) (hab : a < b) (hb : b ≤ n) (hn : n ≤ 1000000000000) (l : List Int) (hl : l.length = n) (k : Nat) (hk : n + 2 ≤ k) :
    reverseRangeOrdered_uint32.f k n l (a : Int) (b : Int) = some (Sort.reverseRange l.toArray a b).toList := by
  unfold reverseRangeOrdered_uint32.f Sort.reverseRange
  rw [n64s (n := b - 1) (by omega) (by omega)]
  exact rev_loop n hn n a (b - 1) l k (by omega) (by omega) (by omega) hl (by omega)
end Go.Proofs.YticnjkdaccacaaaGreatDoor.Pl
end
section
/- The plain partitionEqual is the kit's. -/
namespace Go.Proofs.YticnjkdaccacaaaGreatDoor.Pl
open Go Go.RowKit Sx Base Own QSortuint32uint32

theorem pe_up (kl : List Int → Int → Int → Option (Int × List Int)) (a j n : Nat) (l : List Int) (ha : a < n) (hj : j < n) (hn : n ≤ 1000000000000) (K : Nat) : ∀ (m i k : Nat), j + 1 - i ≤ m → i ≤ n → m + 1 + K ≤ k → ∃ k', K ≤ k' ∧
    partitionEqualOrdered_uint32.l3 k kl (j : Int) (a : Int) n l (i : Int) = partitionEqualOrdered_uint32.j1 k' kl (a : Int) n l (j : Int) ((Sort.scanUp (fun x => !Sort.ltInt (l.toArray[a]!) x) l.toArray j i : Nat) : Int) := by
  intro m
  induction m with
  | zero =>
    intro i k hm hi hk
    obtain ⟨k, rfl⟩ : ∃ q, k = q + 1 := ⟨k - 1, by omega⟩
    unfold partitionEqualOrdered_uint32.l3 Sort.scanUp
    refine ⟨k, by omega, ?_⟩
    rw [if_neg (by simp; omega), if_neg (by rw [Bool.and_eq_true]; exact fun q => by have := of_decide_eq_true q.1; omega)]
  | succ m ih =>
    intro i k hm hi hk
    obtain ⟨k, rfl⟩ : ∃ q, k = q + 1 := ⟨k - 1, by omega⟩
    unfold partitionEqualOrdered_uint32.l3 Sort.scanUp
    by_cases h : i ≤ j
    · have e1 : IntKind.wrap .i64 ((i : Int) + (1 : Int)) = ((i + 1 : Nat) : Int) := n64s (by omega) (by omega)
      rw [if_pos (by simp; omega)]
      simp only [e1, Int.toNat_natCast, if_pos (bs ha), if_pos (bs (show i < n by omega)), less_is, Option.bind_some, ar_get]
      by_cases h2 : (!Sort.ltInt (l.getD a 0) (l.getD i 0)) = true
      · rw [if_pos h2, if_pos (by rw [h2, Bool.and_true]; exact decide_eq_true h)]
        have := ih (i + 1) k (by omega) (by omega) (by omega)
        simpa only [ar_get] using this
      · rw [if_neg h2, if_neg (by rw [Bool.and_eq_true]; exact fun q => h2 q.2)]
        exact ⟨k, by omega, rfl⟩
    · refine ⟨k, by omega, ?_⟩
      rw [if_neg (by simp; omega), if_neg (by rw [Bool.and_eq_true]; exact fun q => h (of_decide_eq_true q.1))]
theorem pe_down (kl : List Int → Int → Int → Option (Int × List Int)) (a i n : Nat) (l : List Int) (ha : a < n) (hi : 1 ≤ i) (hn : n ≤ 1000000000000) : ∀ (j k : Nat), j < n → j + 1 ≤ k →
    partitionEqualOrdered_uint32.l2 k kl (i : Int) (a : Int) n l (j : Int) = partitionEqualOrdered_uint32.j2 kl (i : Int) l n ((Sort.scanDown (fun x => Sort.ltInt (l.toArray[a]!) x) l.toArray i j : Nat) : Int) := by
  intro j
  induction j with
  | zero =>
    intro k hj hk
    obtain ⟨k, rfl⟩ : ∃ q, k = q + 1 := ⟨k - 1, by omega⟩
    unfold partitionEqualOrdered_uint32.l2 Sort.scanDown
    rw [if_neg (by simp; omega)]
  | succ j ih =>
    intro k hj hk
    obtain ⟨k, rfl⟩ : ∃ q, k = q + 1 := ⟨k - 1, by omega⟩
    unfold partitionEqualOrdered_uint32.l2 Sort.scanDown
    by_cases h : i ≤ j + 1
    · have e1 : IntKind.wrap .i64 (((j + 1 : Nat) : Int) - (1 : Int)) = (j : Int) := n64s (by omega) (by omega)
      rw [if_pos (by simp; omega)]
      simp only [e1, Int.toNat_natCast, if_pos (bs ha), if_pos (bs hj), less_is, Option.bind_some, ar_get]
      by_cases h2 : Sort.ltInt (l.getD a 0) (l.getD (j + 1) 0) = true
      · rw [if_pos h2, if_pos (by rw [h2, Bool.and_true]; exact decide_eq_true h)]
        have := ih k (by omega) (by omega)
        simpa only [ar_get] using this
      · rw [if_neg h2, if_neg (by rw [Bool.and_eq_true]; exact fun q => h2 q.2)]
    · rw [if_neg (by simp; omega), if_neg (by rw [Bool.and_eq_true]; exact fun q => h (of_decide_eq_true q.1))]
theorem pe_loop (a n : Nat) (ha : a < n) (hn : n ≤ 1000000000000) : ∀ (m i j : Nat) (l : List Int) (k : Nat), j + 1 - i ≤ m → 1 ≤ i → i ≤ n → j < n → l.length = n → (m + 1) * (2 * n + 5) ≤ k →
    partitionEqualOrdered_uint32.l1 k (a : Int) n l (i : Int) (j : Int) = some (((Sort.partEqLoop Sort.ltInt a i j l.toArray).1 : Int), (Sort.partEqLoop Sort.ltInt a i j l.toArray).2.toList) := by
  intro m
  induction m with
  | zero =>
    intro i j l k hm h1 hi hj hl hk
    obtain ⟨k, rfl⟩ : ∃ q, k = q + 1 := ⟨k - 1, by omega⟩
    rw [Sort.partEqLoop_eq]
    unfold partitionEqualOrdered_uint32.l1
    obtain ⟨k', hk', e⟩ := pe_up (partitionEqualOrdered_uint32.l1 k (a : Int) n) a j n l ha hj hn (n + 1) (j + 1 - i) i k (Nat.le_refl _) hi (by omega)
    rw [e]
    unfold partitionEqualOrdered_uint32.j1
    rw [pe_down _ a _ n l ha (Nat.le_trans h1 (Sort.scanUp_ge _ _ _ _)) hn j k' hj (by omega)]
    unfold partitionEqualOrdered_uint32.j2
    have q1 := Sort.scanUp_ge (fun x => !Sort.ltInt (l.toArray[a]!) x) l.toArray j i
    have q2 := Sort.scanDown_le (fun x => Sort.ltInt (l.toArray[a]!) x) l.toArray (Sort.scanUp (fun x => !Sort.ltInt (l.toArray[a]!) x) l.toArray j i) j
    generalize Sort.scanUp (fun x => !Sort.ltInt (l.toArray[a]!) x) l.toArray j i = i2 at q1 q2 ⊢
    generalize Sort.scanDown (fun x => Sort.ltInt (l.toArray[a]!) x) l.toArray i2 j = j2 at q2 ⊢
    rw [if_pos (by simp; omega), if_pos (by omega)]
  | succ m ih =>
    intro i j l k hm h1 hi hj hl hk
    have hk2 : (m + 1) * (2 * n + 5) + (2 * n + 5) ≤ k := by rw [Nat.succ_mul] at hk; exact hk
    obtain ⟨k, rfl⟩ : ∃ q, k = q + 1 := ⟨k - 1, by omega⟩
    rw [Sort.partEqLoop_eq]
    unfold partitionEqualOrdered_uint32.l1
    obtain ⟨k', hk', e⟩ := pe_up (partitionEqualOrdered_uint32.l1 k (a : Int) n) a j n l ha hj hn (n + 1) (j + 1 - i) i k (Nat.le_refl _) hi (by omega)
    rw [e]
    unfold partitionEqualOrdered_uint32.j1
    rw [pe_down _ a _ n l ha (Nat.le_trans h1 (Sort.scanUp_ge _ _ _ _)) hn j k' hj (by omega)]
    unfold partitionEqualOrdered_uint32.j2
    have q1 := Sort.scanUp_ge (fun x => !Sort.ltInt (l.toArray[a]!) x) l.toArray j i
    have q2 := Sort.scanDown_le (fun x => Sort.ltInt (l.toArray[a]!) x) l.toArray (Sort.scanUp (fun x => !Sort.ltInt (l.toArray[a]!) x) l.toArray j i) j
    generalize Sort.scanUp (fun x => !Sort.ltInt (l.toArray[a]!) x) l.toArray j i = i2 at q1 q2 ⊢
    generalize Sort.scanDown (fun x => Sort.ltInt (l.toArray[a]!) x) l.toArray i2 j = j2 at q2 ⊢
    by_cases h : i2 > j2
    · rw [if_pos (by simp; omega), if_pos h]
    · have e1 : IntKind.wrap .i64 ((i2 : Int) + (1 : Int)) = ((i2 + 1 : Nat) : Int) := n64s (by omega) (by omega)
      have e2 : IntKind.wrap .i64 ((j2 : Int) - (1 : Int)) = ((j2 - 1 : Nat) : Int) := n64s (by omega) (by omega)
      rw [if_neg (by simp; omega), if_neg h]
      simp only [e1, e2, Int.toNat_natCast, if_pos (bs (show i2 < n by omega)), if_pos (bs (show j2 < n by omega)), ar_swp]
      exact ih (i2 + 1) (j2 - 1) _ k (by omega) (by omega) (by omega) (by omega) (by simp [hl]) (by omega)
theorem peq_is (a b p n : Nat) (hap : a ≤ p) (hpb : p < b) (hb : b ≤ n) (hn : n ≤ 1000000000000) (l : List Int) (hl : l.length = n) (k : Nat) (hk : (n + 1) * (2 * n + 5) ≤ k) :
    partitionEqualOrdered_uint32.f k n l (a : Int) (b : Int) (p : Int) = some (((Sort.partitionEqual Sort.ltInt l.toArray a b p).1 : Int), (Sort.partitionEqual Sort.ltInt l.toArray a b p).2.toList) := by
  unfold partitionEqualOrdered_uint32.f Sort.partitionEqual
  have e1 : IntKind.wrap .i64 ((a : Int) + (1 : Int)) = ((a + 1 : Nat) : Int) := n64s (by omega) (by omega)
  have e2 : IntKind.wrap .i64 ((b : Int) - (1 : Int)) = ((b - 1 : Nat) : Int) := n64s (by omega) (by omega)
  simp only [e1, e2, Int.toNat_natCast, if_pos (bs (show a < n by omega)), if_pos (bs (show p < n by omega)), ar_swp]
  exact pe_loop a n (by omega) hn n (a + 1) (b - 1) _ k (by omega) (by omega) (by omega) (by omega) (by simp [hl]) hk
end Go.Proofs.YticnjkdaccacaaaGreatDoor.Pl
end
section
/- The plain partition is the kit's. -/
namespace Go.Proofs.YticnjkdaccacaaaGreatDoor.Pl
open Go Go.RowKit Sx Base Own QSortuint32uint32

theorem pt_up (kl : List Int → Int → Int → Option (Int × Bool × List Int)) (a j n : Nat) (l : List Int) (ha : a < n) (hj : j < n) (hn : n ≤ 1000000000000) (K : Nat) : ∀ (m i k : Nat), j + 1 - i ≤ m → i ≤ n → m + 1 + K ≤ k → ∃ k', K ≤ k' ∧
    partitionOrdered_uint32.l3 k kl (j : Int) n (a : Int) l (i : Int) = partitionOrdered_uint32.j3 k' kl n (a : Int) l (j : Int) ((Sort.scanUp (fun x => Sort.ltInt x (l.toArray[a]!)) l.toArray j i : Nat) : Int) := by
  intro m
  induction m with
  | zero =>
    intro i k hm hi hk
    obtain ⟨k, rfl⟩ : ∃ q, k = q + 1 := ⟨k - 1, by omega⟩
    unfold partitionOrdered_uint32.l3 Sort.scanUp
    refine ⟨k, by omega, ?_⟩
    rw [if_neg (by simp; omega), if_neg (by rw [Bool.and_eq_true]; exact fun q => by have := of_decide_eq_true q.1; omega)]
  | succ m ih =>
    intro i k hm hi hk
    obtain ⟨k, rfl⟩ : ∃ q, k = q + 1 := ⟨k - 1, by omega⟩
    unfold partitionOrdered_uint32.l3 Sort.scanUp
    by_cases h : i ≤ j
    · have e1 : IntKind.wrap .i64 ((i : Int) + (1 : Int)) = ((i + 1 : Nat) : Int) := n64s (by omega) (by omega)
      rw [if_pos (by simp; omega)]
      simp only [e1, Int.toNat_natCast, if_pos (bs ha), if_pos (bs (show i < n by omega)), less_is, Option.bind_some, ar_get]
      by_cases h2 : Sort.ltInt (l.getD i 0) (l.getD a 0) = true
      · rw [if_pos h2, if_pos (by rw [h2, Bool.and_true]; exact decide_eq_true h)]
        have := ih (i + 1) k (by omega) (by omega) (by omega)
        simpa only [ar_get] using this
      · rw [if_neg h2, if_neg (by rw [Bool.and_eq_true]; exact fun q => h2 q.2)]
        exact ⟨k, by omega, rfl⟩
    · refine ⟨k, by omega, ?_⟩
      rw [if_neg (by simp; omega), if_neg (by rw [Bool.and_eq_true]; exact fun q => h (of_decide_eq_true q.1))]
theorem pt_down (kl : List Int → Int → Int → Option (Int × Bool × List Int)) (a i n : Nat) (l : List Int) (ha : a < n) (hi : 1 ≤ i) (hn : n ≤ 1000000000000) : ∀ (j k : Nat), j < n → j + 1 ≤ k →
    partitionOrdered_uint32.l2 k kl (i : Int) n (a : Int) l (j : Int) = partitionOrdered_uint32.j4 kl (i : Int) (a : Int) n l ((Sort.scanDown (fun x => !Sort.ltInt x (l.toArray[a]!)) l.toArray i j : Nat) : Int) := by
  intro j
  induction j with
  | zero =>
    intro k hj hk
    obtain ⟨k, rfl⟩ : ∃ q, k = q + 1 := ⟨k - 1, by omega⟩
    unfold partitionOrdered_uint32.l2 Sort.scanDown
    rw [if_neg (by simp; omega)]
  | succ j ih =>
    intro k hj hk
    obtain ⟨k, rfl⟩ : ∃ q, k = q + 1 := ⟨k - 1, by omega⟩
    unfold partitionOrdered_uint32.l2 Sort.scanDown
    by_cases h : i ≤ j + 1
    · have e1 : IntKind.wrap .i64 (((j + 1 : Nat) : Int) - (1 : Int)) = (j : Int) := n64s (by omega) (by omega)
      rw [if_pos (by simp; omega)]
      simp only [e1, Int.toNat_natCast, if_pos (bs ha), if_pos (bs hj), less_is, Option.bind_some, ar_get]
      by_cases h2 : (!Sort.ltInt (l.getD (j + 1) 0) (l.getD a 0)) = true
      · rw [if_pos h2, if_pos (by rw [h2, Bool.and_true]; exact decide_eq_true h)]
        have := ih k (by omega) (by omega)
        simpa only [ar_get] using this
      · rw [if_neg h2, if_neg (by rw [Bool.and_eq_true]; exact fun q => h2 q.2)]
    · rw [if_neg (by simp; omega), if_neg (by rw [Bool.and_eq_true]; exact fun q => h (of_decide_eq_true q.1))]
/-- What the loop comes to. -/
def ptEnd (a : Nat) (r : Nat × Array Int) : Option (Int × Bool × List Int) := some ((r.1 : Int), false, (Sort.swp r.2 r.1 a).toList)
theorem pt_loop (a n : Nat) (ha : a < n) (hn : n ≤ 1000000000000) : ∀ (m i j : Nat) (l : List Int) (k : Nat), j + 1 - i ≤ m → 1 ≤ i → i ≤ n → j < n → l.length = n → (m + 1) * (2 * n + 5) ≤ k →
    partitionOrdered_uint32.l1 k n (a : Int) l (i : Int) (j : Int) = ptEnd a (Sort.partLoop Sort.ltInt a i j l.toArray) := by
  intro m
  induction m with
  | zero =>
    intro i j l k hm h1 hi hj hl hk
    obtain ⟨k, rfl⟩ : ∃ q, k = q + 1 := ⟨k - 1, by omega⟩
    rw [Sort.partLoop_eq]
    unfold partitionOrdered_uint32.l1
    obtain ⟨k', hk', e⟩ := pt_up (partitionOrdered_uint32.l1 k n (a : Int)) a j n l ha hj hn (n + 1) (j + 1 - i) i k (Nat.le_refl _) hi (by omega)
    rw [e]
    unfold partitionOrdered_uint32.j3
    rw [pt_down _ a _ n l ha (Nat.le_trans h1 (Sort.scanUp_ge _ _ _ _)) hn j k' hj (by omega)]
    unfold partitionOrdered_uint32.j4
    have q1 := Sort.scanUp_ge (fun x => Sort.ltInt x (l.toArray[a]!)) l.toArray j i
    have q2 := Sort.scanDown_le (fun x => !Sort.ltInt x (l.toArray[a]!)) l.toArray (Sort.scanUp (fun x => Sort.ltInt x (l.toArray[a]!)) l.toArray j i) j
    generalize Sort.scanUp (fun x => Sort.ltInt x (l.toArray[a]!)) l.toArray j i = i2 at q1 q2 ⊢
    generalize Sort.scanDown (fun x => !Sort.ltInt x (l.toArray[a]!)) l.toArray i2 j = j2 at q2 ⊢
    rw [if_pos (by simp; omega), if_pos (c := i2 > j2) (by omega)]
    simp only [Int.toNat_natCast, if_pos (bs ha), if_pos (bs (show j2 < n by omega)), ptEnd, ar_swp]
  | succ m ih =>
    intro i j l k hm h1 hi hj hl hk
    have hk2 : (m + 1) * (2 * n + 5) + (2 * n + 5) ≤ k := by rw [Nat.succ_mul] at hk; exact hk
    obtain ⟨k, rfl⟩ : ∃ q, k = q + 1 := ⟨k - 1, by omega⟩
    rw [Sort.partLoop_eq]
    unfold partitionOrdered_uint32.l1
    obtain ⟨k', hk', e⟩ := pt_up (partitionOrdered_uint32.l1 k n (a : Int)) a j n l ha hj hn (n + 1) (j + 1 - i) i k (Nat.le_refl _) hi (by omega)
    rw [e]
    unfold partitionOrdered_uint32.j3
    rw [pt_down _ a _ n l ha (Nat.le_trans h1 (Sort.scanUp_ge _ _ _ _)) hn j k' hj (by omega)]
    unfold partitionOrdered_uint32.j4
    have q1 := Sort.scanUp_ge (fun x => Sort.ltInt x (l.toArray[a]!)) l.toArray j i
    have q2 := Sort.scanDown_le (fun x => !Sort.ltInt x (l.toArray[a]!)) l.toArray (Sort.scanUp (fun x => Sort.ltInt x (l.toArray[a]!)) l.toArray j i) j
    generalize Sort.scanUp (fun x => Sort.ltInt x (l.toArray[a]!)) l.toArray j i = i2 at q1 q2 ⊢
    generalize Sort.scanDown (fun x => !Sort.ltInt x (l.toArray[a]!)) l.toArray i2 j = j2 at q2 ⊢
    by_cases h : i2 > j2
    · rw [if_pos (by simp; omega), if_pos h]
      simp only [Int.toNat_natCast, if_pos (bs ha), if_pos (bs (show j2 < n by omega)), ptEnd, ar_swp]
    · have e1 : IntKind.wrap .i64 ((i2 : Int) + (1 : Int)) = ((i2 + 1 : Nat) : Int) := n64s (by omega) (by omega)
      have e2 : IntKind.wrap .i64 ((j2 : Int) - (1 : Int)) = ((j2 - 1 : Nat) : Int) := n64s (by omega) (by omega)
      rw [if_neg (by simp; omega), if_neg h]
      simp only [e1, e2, Int.toNat_natCast, if_pos (bs (show i2 < n by omega)), if_pos (bs (show j2 < n by omega)), ar_swp]
      exact ih (i2 + 1) (j2 - 1) _ k (by omega) (by omega) (by omega) (by omega) (by simp [hl]) (by omega)
/-- The list with the pivot in front. -/
def ptL (l : List Int) (a p : Nat) : List Int := (l.set a (l.getD p 0)).set p (l.getD a 0)
theorem pt_up0 (a p b n : Nat) (l : List Int) (ha : a < n) (hb1 : 1 ≤ b) (hb : b ≤ n) (hl : l.length = n) (hn : n ≤ 1000000000000) (K : Nat) : ∀ (m i k : Nat), b - i ≤ m → i ≤ n → m + 1 + K ≤ k → ∃ k', K ≤ k' ∧
    partitionOrdered_uint32.l5 k (b : Int) n (a : Int) l (p : Int) (i : Int) = partitionOrdered_uint32.j1 k' n (a : Int) l (p : Int) (b : Int) ((Sort.scanUp (fun x => Sort.ltInt x ((ptL l a p).toArray[a]!)) (ptL l a p).toArray (b - 1) i : Nat) : Int) := by
  have eb : IntKind.wrap .i64 ((b : Int) - (1 : Int)) = ((b - 1 : Nat) : Int) := n64s (by omega) (by omega)
  intro m
  induction m with
  | zero =>
    intro i k hm hi hk
    obtain ⟨k, rfl⟩ : ∃ q, k = q + 1 := ⟨k - 1, by omega⟩
    unfold partitionOrdered_uint32.l5 Sort.scanUp
    refine ⟨k, by omega, ?_⟩
    rw [eb, if_neg (by simp; omega), if_neg (by rw [Bool.and_eq_true]; exact fun q => by have := of_decide_eq_true q.1; omega)]
  | succ m ih =>
    intro i k hm hi hk
    obtain ⟨k, rfl⟩ : ∃ q, k = q + 1 := ⟨k - 1, by omega⟩
    unfold partitionOrdered_uint32.l5 Sort.scanUp
    by_cases h : i ≤ b - 1
    · have e1 : IntKind.wrap .i64 ((i : Int) + (1 : Int)) = ((i + 1 : Nat) : Int) := n64s (by omega) (by omega)
      rw [eb, if_pos (by simp; omega)]
      simp only [e1, Int.toNat_natCast, if_pos (bs ha), if_pos (bs (show i < n by omega)), less_is, Option.bind_some, ar_get]
      by_cases h2 : Sort.ltInt ((ptL l a p).getD i 0) ((ptL l a p).getD a 0) = true
      · rw [if_pos (show Sort.ltInt (((l.set a (l.getD p 0)).set p (l.getD a 0)).getD i 0) (((l.set a (l.getD p 0)).set p (l.getD a 0)).getD a 0) = true from h2), if_pos (by rw [h2, Bool.and_true]; exact decide_eq_true h)]
        have := ih (i + 1) k (by omega) (by omega) (by omega)
        simpa only [ar_get] using this
      · rw [if_neg (show ¬ Sort.ltInt (((l.set a (l.getD p 0)).set p (l.getD a 0)).getD i 0) (((l.set a (l.getD p 0)).set p (l.getD a 0)).getD a 0) = true from h2), if_neg (by rw [Bool.and_eq_true]; exact fun q => h2 q.2)]
        exact ⟨k, by omega, rfl⟩
    · refine ⟨k, by omega, ?_⟩
      rw [eb, if_neg (by simp; omega), if_neg (by rw [Bool.and_eq_true]; exact fun q => h (of_decide_eq_true q.1))]
theorem pt_down0 (a p i n : Nat) (l : List Int) (ha : a < n) (hi : 1 ≤ i) (hl : l.length = n) (hn : n ≤ 1000000000000) (K : Nat) : ∀ (j k : Nat), j < n → j + 1 + K ≤ k → ∃ k', K ≤ k' ∧
    partitionOrdered_uint32.l4 k (i : Int) n (a : Int) l (p : Int) (j : Int) = partitionOrdered_uint32.j2 k' (i : Int) (a : Int) n l (p : Int) ((Sort.scanDown (fun x => !Sort.ltInt x ((ptL l a p).toArray[a]!)) (ptL l a p).toArray i j : Nat) : Int) := by
  intro j
  induction j with
  | zero =>
    intro k hj hk
    obtain ⟨k, rfl⟩ : ∃ q, k = q + 1 := ⟨k - 1, by omega⟩
    unfold partitionOrdered_uint32.l4 Sort.scanDown
    refine ⟨k, by omega, ?_⟩
    rw [if_neg (by simp; omega)]
  | succ j ih =>
    intro k hj hk
    obtain ⟨k, rfl⟩ : ∃ q, k = q + 1 := ⟨k - 1, by omega⟩
    unfold partitionOrdered_uint32.l4 Sort.scanDown
    by_cases h : i ≤ j + 1
    · have e1 : IntKind.wrap .i64 (((j + 1 : Nat) : Int) - (1 : Int)) = (j : Int) := n64s (by omega) (by omega)
      rw [if_pos (by simp; omega)]
      simp only [e1, Int.toNat_natCast, if_pos (bs ha), if_pos (bs hj), less_is, Option.bind_some, ar_get]
      by_cases h2 : (!Sort.ltInt ((ptL l a p).getD (j + 1) 0) ((ptL l a p).getD a 0)) = true
      · rw [if_pos (show (!Sort.ltInt (((l.set a (l.getD p 0)).set p (l.getD a 0)).getD (j + 1) 0) (((l.set a (l.getD p 0)).set p (l.getD a 0)).getD a 0)) = true from h2), if_pos (by rw [h2, Bool.and_true]; exact decide_eq_true h)]
        have := ih k (by omega) (by omega)
        simpa only [ar_get] using this
      · rw [if_neg (show ¬ (!Sort.ltInt (((l.set a (l.getD p 0)).set p (l.getD a 0)).getD (j + 1) 0) (((l.set a (l.getD p 0)).set p (l.getD a 0)).getD a 0)) = true from h2), if_neg (by rw [Bool.and_eq_true]; exact fun q => h2 q.2)]
        exact ⟨k, by omega, rfl⟩
    · refine ⟨k, by omega, ?_⟩
      rw [if_neg (by simp; omega), if_neg (by rw [Bool.and_eq_true]; exact fun q => h (of_decide_eq_true q.1))]
theorem part_is (a b p n : Nat) (hap : a ≤ p) (hpb : p < b) (hb : b ≤ n) (hn : n ≤ 1000000000000) (l : List Int) (hl : l.length = n) (k : Nat) (hk : (n + 3) * (2 * n + 5) ≤ k) :
    partitionOrdered_uint32.f k n l (a : Int) (b : Int) (p : Int) = some (((Sort.partition Sort.ltInt l.toArray a b p).1 : Int), (Sort.partition Sort.ltInt l.toArray a b p).2.1, (Sort.partition Sort.ltInt l.toArray a b p).2.2.toList) := by
  have hk1 : (n + 1) * (2 * n + 5) + (2 * n + 5) + (2 * n + 5) ≤ k := by
    have : (n + 3) * (2 * n + 5) = (n + 1) * (2 * n + 5) + (2 * n + 5) + (2 * n + 5) := by rw [show n + 3 = n + 1 + 1 + 1 from rfl, Nat.succ_mul, Nat.succ_mul]
    omega
  unfold partitionOrdered_uint32.f Sort.partition
  have e1 : IntKind.wrap .i64 ((a : Int) + (1 : Int)) = ((a + 1 : Nat) : Int) := n64s (by omega) (by omega)
  have e2 : IntKind.wrap .i64 ((b : Int) - (1 : Int)) = ((b - 1 : Nat) : Int) := n64s (by omega) (by omega)
  simp only [e1, if_pos (bs (show a < n by omega)), if_pos (bs (show p < n by omega)), ar_swp]
  obtain ⟨k1, hk2, q1⟩ := pt_up0 a p b n l (by omega) (by omega) hb hl hn ((n + 1) * (2 * n + 5) + (2 * n + 5)) (b - (a + 1)) (a + 1) k (Nat.le_refl _) (by omega) (by omega)
  rw [q1]
  unfold partitionOrdered_uint32.j1
  rw [e2]
  have g1 := Sort.scanUp_ge (fun x => Sort.ltInt x ((ptL l a p).toArray[a]!)) (ptL l a p).toArray (b - 1) (a + 1)
  obtain ⟨k2, hk3, q2⟩ := pt_down0 a p (Sort.scanUp (fun x => Sort.ltInt x ((ptL l a p).toArray[a]!)) (ptL l a p).toArray (b - 1) (a + 1)) n l (by omega) (by omega) hl hn ((n + 1) * (2 * n + 5)) (b - 1) k1 (by omega) (by omega)
  rw [q2]
  unfold partitionOrdered_uint32.j2
  have g2 := Sort.scanDown_le (fun x => !Sort.ltInt x ((ptL l a p).toArray[a]!)) (ptL l a p).toArray (Sort.scanUp (fun x => Sort.ltInt x ((ptL l a p).toArray[a]!)) (ptL l a p).toArray (b - 1) (a + 1)) (b - 1)
  have eL : (l.set a (l.getD p 0)).set p (l.getD a 0) = ptL l a p := rfl
  simp only [eL, ar_get]
  simp only [ar_get] at g1 g2
  have lL : (ptL l a p).length = n := by unfold ptL; simp [hl]
  generalize Sort.scanUp (fun x => Sort.ltInt x ((ptL l a p).getD a 0)) (ptL l a p).toArray (b - 1) (a + 1) = i2 at g1 g2 ⊢
  generalize Sort.scanDown (fun x => !Sort.ltInt x ((ptL l a p).getD a 0)) (ptL l a p).toArray i2 (b - 1) = j2 at g2 ⊢
  by_cases h : i2 > j2
  · rw [if_pos (show decide ((i2 : Int) > (j2 : Int)) = true by simp; omega), if_pos h]
    simp only [Int.toNat_natCast, if_pos (bs (show a < n by omega)), if_pos (bs (show j2 < n by omega)), ar_swp]
    rfl
  · have e3 : IntKind.wrap .i64 ((i2 : Int) + (1 : Int)) = ((i2 + 1 : Nat) : Int) := n64s (by omega) (by omega)
    have e4 : IntKind.wrap .i64 ((j2 : Int) - (1 : Int)) = ((j2 - 1 : Nat) : Int) := n64s (by omega) (by omega)
    rw [if_neg (show ¬ decide ((i2 : Int) > (j2 : Int)) = true by simp; omega), if_neg h]
    simp only [e3, e4, Int.toNat_natCast, if_pos (bs (show i2 < n by omega)), if_pos (bs (show j2 < n by omega)), ar_swp]
    rw [pt_loop a n (by omega) hn n (i2 + 1) (j2 - 1) _ k2 (by omega) (by omega) (by omega) (by omega) (by simp [hl]) hk3]
    rfl
end Go.Proofs.YticnjkdaccacaaaGreatDoor.Pl
end
section
/- The plain partialInsertionSort is the kit's. -/
namespace Go.Proofs.YticnjkdaccacaaaGreatDoor.Pl
open Go Go.RowKit Sx Base Own QSortuint32uint32

theorem pi_up (kl : List Int → Int → Int → Option (Bool × List Int)) (b n : Nat) (x3 x9 : Int) (hb : b ≤ n) (hn : n ≤ 1000000000000) : ∀ (m j : Nat) (l : List Int) (k : Nat), b - j ≤ m → 1 ≤ j → l.length = n → j ≤ n + 1 → m + 1 ≤ k →
    partialInsertionSortOrdered_uint32.l2 k kl (b : Int) n x3 x9 l (j : Int) = partialInsertionSortOrdered_uint32.j1 kl x3 (Sort.shiftUp Sort.ltInt b j l.toArray).toList x9 := by
  intro m
  induction m with
  | zero =>
    intro j l k hm hj hl hj2 hk
    obtain ⟨k, rfl⟩ : ∃ q, k = q + 1 := ⟨k - 1, by omega⟩
    unfold partialInsertionSortOrdered_uint32.l2 Sort.shiftUp
    rw [if_neg (by simp; omega), if_neg (by omega)]
  | succ m ih =>
    intro j l k hm hj hl hj2 hk
    obtain ⟨k, rfl⟩ : ∃ q, k = q + 1 := ⟨k - 1, by omega⟩
    unfold partialInsertionSortOrdered_uint32.l2 Sort.shiftUp
    by_cases h : j < b
    · have e1 : IntKind.wrap .i64 ((j : Int) + (1 : Int)) = ((j + 1 : Nat) : Int) := n64s (by omega) (by omega)
      have e2 : IntKind.wrap .i64 ((j : Int) - (1 : Int)) = ((j - 1 : Nat) : Int) := n64s (by omega) (by omega)
      rw [if_pos (by simp; omega), if_pos h]
      simp only [e1, e2, Int.toNat_natCast, if_pos (bs (show j < n by omega)), if_pos (bs (show j - 1 < n by omega)), less_is, Option.bind_some, ar_get, ar_swp]
      by_cases h2 : (!Sort.ltInt (l.getD j 0) (l.getD (j - 1) 0)) = true
      · rw [if_pos h2, if_pos h2]
      · rw [if_neg h2, if_neg h2]
        exact ih (j + 1) _ k (by omega) (by omega) (by simp [hl]) (by omega) (by omega)
    · rw [if_neg (by simp; omega), if_neg h]
theorem pi_down (kl : List Int → Int → Int → Option (Bool × List Int)) (n : Nat) (x2 x3 x9 : Int) (hn : n ≤ 1000000000000) (K : Nat) : ∀ (j : Nat) (l : List Int) (k : Nat), j < n → l.length = n → j + 1 + K ≤ k → ∃ k', K ≤ k' ∧
    partialInsertionSortOrdered_uint32.l3 k kl n x2 x9 x3 l (j : Int) = partialInsertionSortOrdered_uint32.j3 k' kl x2 x9 n x3 (Sort.shiftDown Sort.ltInt j l.toArray).toList := by
  intro j
  induction j with
  | zero =>
    intro l k hj hl hk
    obtain ⟨k, rfl⟩ : ∃ q, k = q + 1 := ⟨k - 1, by omega⟩
    unfold partialInsertionSortOrdered_uint32.l3 Sort.shiftDown
    refine ⟨k, by omega, ?_⟩
    rw [if_neg (by simp)]
  | succ j ih =>
    intro l k hj hl hk
    obtain ⟨k, rfl⟩ : ∃ q, k = q + 1 := ⟨k - 1, by omega⟩
    unfold partialInsertionSortOrdered_uint32.l3 Sort.shiftDown
    have e1 : IntKind.wrap .i64 (((j + 1 : Nat) : Int) - (1 : Int)) = (j : Int) := n64s (by omega) (by omega)
    rw [if_pos (by simp; omega)]
    simp only [e1, Int.toNat_natCast, if_pos (bs hj), if_pos (bs (show j < n by omega)), less_is, Option.bind_some, ar_get, ar_swp]
    by_cases h2 : (!Sort.ltInt (l.getD (j + 1) 0) (l.getD j 0)) = true
    · rw [if_pos h2, if_pos h2]
      exact ⟨k, by omega, rfl⟩
    · rw [if_neg h2, if_neg h2]
      exact ih _ k (by omega) (by simp [hl]) (by omega)
theorem pi_scan (kl : List Int → Int → Int → Option (Bool × List Int)) (b n : Nat) (x1 x3 : Int) (l : List Int) (hb : b ≤ n) (hn : n ≤ 1000000000000) (K : Nat) : ∀ (m i k : Nat), b - i ≤ m → 1 ≤ i → i ≤ n → m + 1 + K ≤ k → ∃ k', K ≤ k' ∧
    partialInsertionSortOrdered_uint32.l4 k kl (b : Int) n l x1 x3 (i : Int) = partialInsertionSortOrdered_uint32.j2 k' kl (b : Int) l x1 n x3 ((Sort.scanSorted Sort.ltInt l.toArray b i : Nat) : Int) := by
  intro m
  induction m with
  | zero =>
    intro i k hm h1 hi hk
    obtain ⟨k, rfl⟩ : ∃ q, k = q + 1 := ⟨k - 1, by omega⟩
    unfold partialInsertionSortOrdered_uint32.l4 Sort.scanSorted
    refine ⟨k, by omega, ?_⟩
    rw [if_neg (by simp; omega), if_neg (by rw [Bool.and_eq_true]; exact fun q => by have := of_decide_eq_true q.1; omega)]
  | succ m ih =>
    intro i k hm h1 hi hk
    obtain ⟨k, rfl⟩ : ∃ q, k = q + 1 := ⟨k - 1, by omega⟩
    unfold partialInsertionSortOrdered_uint32.l4 Sort.scanSorted
    by_cases h : i < b
    · have e1 : IntKind.wrap .i64 ((i : Int) + (1 : Int)) = ((i + 1 : Nat) : Int) := n64s (by omega) (by omega)
      have e2 : IntKind.wrap .i64 ((i : Int) - (1 : Int)) = ((i - 1 : Nat) : Int) := n64s (by omega) (by omega)
      rw [if_pos (by simp; omega)]
      simp only [e1, e2, Int.toNat_natCast, if_pos (bs (show i < n by omega)), if_pos (bs (show i - 1 < n by omega)), less_is, Option.bind_some, ar_get]
      by_cases h2 : (!Sort.ltInt (l.getD i 0) (l.getD (i - 1) 0)) = true
      · rw [if_pos h2, if_pos (by rw [h2, Bool.and_true]; exact decide_eq_true h)]
        exact ih (i + 1) k (by omega) (by omega) (by omega) (by omega)
      · rw [if_neg h2, if_neg (by rw [Bool.and_eq_true]; exact fun q => h2 q.2)]
        exact ⟨k, by omega, rfl⟩
    · refine ⟨k, by omega, ?_⟩
      rw [if_neg (by simp; omega), if_neg (by rw [Bool.and_eq_true]; exact fun q => h (of_decide_eq_true q.1))]
theorem scan_le (d : Array Int) (b : Nat) : ∀ (m i : Nat), b - i ≤ m → i ≤ b → i ≤ Sort.scanSorted Sort.ltInt d b i ∧ Sort.scanSorted Sort.ltInt d b i ≤ b := by
  intro m
  induction m with
  | zero =>
    intro i hm hi
    unfold Sort.scanSorted
    rw [if_neg (by rw [Bool.and_eq_true]; exact fun q => by have := of_decide_eq_true q.1; omega)]
    omega
  | succ m ih =>
    intro i hm hi
    unfold Sort.scanSorted
    split
    · rename_i h
      rw [Bool.and_eq_true] at h
      have := of_decide_eq_true h.1
      have := ih (i + 1) (by omega) (by omega)
      omega
    · omega
theorem downSize : ∀ (j : Nat) (d : Array Int), (Sort.shiftDown Sort.ltInt j d).size = d.size := by
  intro j
  induction j with
  | zero => intro d; rfl
  | succ j ih =>
    intro d
    unfold Sort.shiftDown
    split
    · rfl
    · rw [ih]; simp [Sort.swp]
theorem upSize (b : Nat) : ∀ (m j : Nat) (d : Array Int), b - j ≤ m → (Sort.shiftUp Sort.ltInt b j d).size = d.size := by
  intro m
  induction m with
  | zero => intro j d h; unfold Sort.shiftUp; rw [if_neg (by omega)]
  | succ m ih =>
    intro j d h
    unfold Sort.shiftUp
    split
    · split
      · rfl
      · rw [ih _ _ (by omega)]; simp [Sort.swp]
    · rfl
theorem pi_loop (a b n : Nat) (hab : a < b) (hb : b ≤ n) (hn : n ≤ 1000000000000) : ∀ (s i : Nat) (l : List Int) (k : Nat), s ≤ 5 → a + 1 ≤ i → i ≤ b → l.length = n → (s + 1) * (3 * n + 10) ≤ k →
    partialInsertionSortOrdered_uint32.l1 k (b : Int) n (a : Int) l (i : Int) (((5 - s : Nat)) : Int) = some ((Sort.partialIns Sort.ltInt a b s i l.toArray).2, (Sort.partialIns Sort.ltInt a b s i l.toArray).1.toList) := by
  intro s
  induction s with
  | zero =>
    intro i l k hs h1 hi hl hk
    obtain ⟨k, rfl⟩ : ∃ q, k = q + 1 := ⟨k - 1, by omega⟩
    unfold partialInsertionSortOrdered_uint32.l1 Sort.partialIns
    rw [if_neg (by simp)]
  | succ s ih =>
    intro i l k hs h1 hi hl hk
    have hk2 : (s + 1) * (3 * n + 10) + (3 * n + 10) ≤ k := by rw [Nat.succ_mul] at hk; exact hk
    obtain ⟨k, rfl⟩ : ∃ q, k = q + 1 := ⟨k - 1, by omega⟩
    unfold partialInsertionSortOrdered_uint32.l1 Sort.partialIns
    rw [if_pos (by simp; omega)]
    obtain ⟨k1, hk3, q1⟩ := pi_scan (partialInsertionSortOrdered_uint32.l1 k (b : Int) n (a : Int)) b n (a : Int) (((5 - (s + 1) : Nat)) : Int) l hb hn (2 * n + 5) (b - i) i k (Nat.le_refl _) (by omega) (by omega) (by omega)
    rw [q1]
    obtain ⟨g1, g2⟩ := scan_le l.toArray b (b - i) i (Nat.le_refl _) hi
    generalize Sort.scanSorted Sort.ltInt l.toArray b i = i2 at g1 g2 ⊢
    unfold partialInsertionSortOrdered_uint32.j2
    dsimp only
    by_cases hib : i2 = b
    · rw [if_pos (by simp [hib]), if_pos hib]
    · have e1 : IntKind.wrap .i64 ((b : Int) - (a : Int)) = ((b - a : Nat) : Int) := n64s (by omega) (by omega)
      have e2 : IntKind.wrap .i64 ((i2 : Int) - (1 : Int)) = ((i2 - 1 : Nat) : Int) := n64s (by omega) (by omega)
      have e3 : IntKind.wrap .i64 ((i2 : Int) - (a : Int)) = ((i2 - a : Nat) : Int) := n64s (by omega) (by omega)
      have e4 : IntKind.wrap .i64 ((b : Int) - (i2 : Int)) = ((b - i2 : Nat) : Int) := n64s (by omega) (by omega)
      have e5 : IntKind.wrap .i64 ((i2 : Int) + (1 : Int)) = ((i2 + 1 : Nat) : Int) := n64s (by omega) (by omega)
      have e6 : IntKind.wrap .i64 ((((5 - (s + 1) : Nat)) : Int) + (1 : Int)) = ((5 - s : Nat) : Int) := n64s (by omega) (by omega)
      rw [if_neg (by simp; omega), if_neg hib, e1]
      by_cases h50 : b - a < 50
      · rw [if_pos (by simp; omega), if_pos h50]
      · rw [if_neg (by simp; omega), if_neg h50]
        simp only [e2, e3, Int.toNat_natCast, if_pos (bs (show i2 < n by omega)), if_pos (bs (show i2 - 1 < n by omega)), ar_swp]
        have last : ∀ (L : List Int) (q : Nat), L.length = n → n + 2 ≤ q → partialInsertionSortOrdered_uint32.j3 q (partialInsertionSortOrdered_uint32.l1 k (b : Int) n (a : Int)) (b : Int) (i2 : Int) n (((5 - (s + 1) : Nat)) : Int) L =
            some ((Sort.partialIns Sort.ltInt a b s i2 (if b - i2 ≥ 2 then Sort.shiftUp Sort.ltInt b (i2 + 1) L.toArray else L.toArray)).2, (Sort.partialIns Sort.ltInt a b s i2 (if b - i2 ≥ 2 then Sort.shiftUp Sort.ltInt b (i2 + 1) L.toArray else L.toArray)).1.toList) := by
          intro L q hL hq
          unfold partialInsertionSortOrdered_uint32.j3
          rw [e4, e5]
          by_cases h2 : b - i2 ≥ 2
          · rw [if_pos (by simp; omega), if_pos h2, pi_up _ b n _ _ hb hn (b - (i2 + 1)) (i2 + 1) L q (Nat.le_refl _) (by omega) hL (by omega) (by omega)]
            unfold partialInsertionSortOrdered_uint32.j1
            rw [e6]
            have := ih i2 (Sort.shiftUp Sort.ltInt b (i2 + 1) L.toArray).toList k (by omega) (by omega) g2 (by rw [Array.length_toList, upSize b (b - (i2 + 1)) _ _ (Nat.le_refl _)]; simp [hL]) (by omega)
            simpa using this
          · rw [if_neg (by simp; omega), if_neg h2]
            unfold partialInsertionSortOrdered_uint32.j1
            rw [e6]
            exact ih i2 L k (by omega) (by omega) g2 hL (by omega)
        by_cases h2 : i2 - a ≥ 2
        · rw [if_pos (by simp; omega), if_pos h2]
          obtain ⟨k2, hk4, q2⟩ := pi_down (partialInsertionSortOrdered_uint32.l1 k (b : Int) n (a : Int)) n (b : Int) (((5 - (s + 1) : Nat)) : Int) (i2 : Int) hn (n + 2) (i2 - 1) ((l.set i2 (l.getD (i2 - 1) 0)).set (i2 - 1) (l.getD i2 0)) k1 (by omega) (by simp [hl]) (by omega)
          rw [q2, last _ k2 (by rw [Array.length_toList, downSize]; simp [hl]) hk4]
        · rw [if_neg (by simp; omega), if_neg h2]
          exact last _ k1 (by simp [hl]) (by omega)
theorem pins_is (a b n : Nat) (hab : a < b) (hb : b ≤ n) (hn : n ≤ 1000000000000) (l : List Int) (hl : l.length = n) (k : Nat) (hk : 6 * (3 * n + 10) ≤ k) :
    partialInsertionSortOrdered_uint32.f k n l (a : Int) (b : Int) = some ((Sort.partialInsertionSort Sort.ltInt l.toArray a b).2, (Sort.partialInsertionSort Sort.ltInt l.toArray a b).1.toList) := by
  unfold partialInsertionSortOrdered_uint32.f Sort.partialInsertionSort
  have e1 : IntKind.wrap .i64 ((a : Int) + (1 : Int)) = ((a + 1 : Nat) : Int) := n64s (by omega) (by omega)
  rw [e1]
  exact pi_loop a b n hab hb hn 5 (a + 1) l k (by omega) (by omega) (by omega) hl hk
end Go.Proofs.YticnjkdaccacaaaGreatDoor.Pl
end
section
/- The pivot lies in the range. -/
namespace Go.Proofs.YticnjkdaccacaaaGreatDoor.Pl
open Go Go.RowKit Sx Base Own QSortuint32uint32

theorem ord2 (l : List Int) (a b : Nat) (s : Int) (ha : a < l.length) (hb : b < l.length) : ∃ (c d : Nat) (t : Int), order2Ordered_uint32.f l (a : Int) (b : Int) s = some ((c : Int), (d : Int), t) ∧ (c = a ∨ c = b) ∧ (d = a ∨ d = b) := by
  unfold order2Ordered_uint32.f
  simp only [if_pos (bs ha), if_pos (bs hb), less_is, Option.bind_some]
  split
  · exact ⟨b, a, _, rfl, .inr rfl, .inl rfl⟩
  · exact ⟨a, b, _, rfl, .inl rfl, .inr rfl⟩
theorem med (l : List Int) (a b c : Nat) (s : Int) (ha : a < l.length) (hb : b < l.length) (hc : c < l.length) : ∃ (q : Nat) (t : Int), medianOrdered_uint32.f l (a : Int) (b : Int) (c : Int) s = some ((q : Int), t) ∧ (q = a ∨ q = b ∨ q = c) := by
  unfold medianOrdered_uint32.f
  obtain ⟨a1, b1, t1, e1, h1, h2⟩ := ord2 l a b s ha hb
  rw [e1]; simp only [Option.bind_some]
  obtain ⟨b2, c2, t2, e2, h3, h4⟩ := ord2 l b1 c t1 (by omega) hc
  rw [e2]; simp only [Option.bind_some]
  obtain ⟨a3, b3, t3, e3, h5, h6⟩ := ord2 l a1 b2 t2 (by omega) (by omega)
  rw [e3]; simp only [Option.bind_some]
  exact ⟨b3, t3, rfl, by omega⟩
theorem medAdj (l : List Int) (a : Nat) (s : Int) (h1 : 1 ≤ a) (ha : a + 1 < l.length) (hn : l.length ≤ 1000000000000) : ∃ (q : Nat) (t : Int), medianAdjacentOrdered_uint32.f l (a : Int) s = some ((q : Int), t) ∧ a - 1 ≤ q ∧ q ≤ a + 1 := by
  unfold medianAdjacentOrdered_uint32.f
  have e1 : IntKind.wrap .i64 ((a : Int) - (1 : Int)) = ((a - 1 : Nat) : Int) := n64s (by omega) (by omega)
  have e2 : IntKind.wrap .i64 ((a : Int) + (1 : Int)) = ((a + 1 : Nat) : Int) := n64s (by omega) (by omega)
  rw [e1, e2]
  obtain ⟨q, t, e, h⟩ := med l (a - 1) a (a + 1) s (by omega) (by omega) ha
  rw [e]; simp only [Option.bind_some]
  exact ⟨q, t, rfl, by omega, by omega⟩
theorem piv (l : List Int) (a b : Nat) (hab : a < b) (hb : b ≤ l.length) (hn : l.length ≤ 1000000000000) : ∃ (q : Nat) (t : Int), choosePivotOrdered_uint32.f l (a : Int) (b : Int) = some ((q : Int), t) ∧ a ≤ q ∧ q < b := by
  unfold choosePivotOrdered_uint32.f
  have e0 : IntKind.wrap .i64 ((b : Int) - (a : Int)) = ((b - a : Nat) : Int) := n64s (by omega) (by omega)
  have e1 : IntKind.wrap .i64 (Int.tdiv ((b - a : Nat) : Int) (4 : Int)) = (((b - a) / 4 : Nat) : Int) := n64s (by rw [Int.tdiv_eq_ediv_of_nonneg (by omega)]; omega) (by omega)
  have e2 : IntKind.wrap .i64 ((((b - a) / 4 : Nat) : Int) * (1 : Int)) = (((b - a) / 4 : Nat) : Int) := n64s (by omega) (by omega)
  have e3 : IntKind.wrap .i64 ((((b - a) / 4 : Nat) : Int) * (2 : Int)) = (((b - a) / 4 * 2 : Nat) : Int) := n64s (by omega) (by omega)
  have e4 : IntKind.wrap .i64 ((((b - a) / 4 : Nat) : Int) * (3 : Int)) = (((b - a) / 4 * 3 : Nat) : Int) := n64s (by omega) (by omega)
  have f2 : IntKind.wrap .i64 ((a : Int) + (((b - a) / 4 : Nat) : Int)) = ((a + (b - a) / 4 : Nat) : Int) := n64s (by omega) (by omega)
  have f3 : IntKind.wrap .i64 ((a : Int) + (((b - a) / 4 * 2 : Nat) : Int)) = ((a + (b - a) / 4 * 2 : Nat) : Int) := n64s (by omega) (by omega)
  have f4 : IntKind.wrap .i64 ((a : Int) + (((b - a) / 4 * 3 : Nat) : Int)) = ((a + (b - a) / 4 * 3 : Nat) : Int) := n64s (by omega) (by omega)
  rw [e0, e1, lt_is (by rw [e2, f2]), lt_is (by rw [e3, f3]), lt_is (by rw [e4, f4])]
  have j1 : ∀ (x : Int) (q : Nat), ∃ t, choosePivotOrdered_uint32.j1 x (q : Int) = some ((q : Int), t) := by
    intro x q
    unfold choosePivotOrdered_uint32.j1
    split
    · exact ⟨_, rfl⟩
    · split <;> exact ⟨_, rfl⟩
  by_cases h8 : b - a ≥ 8
  · rw [if_pos (by simp; omega)]
    by_cases h50 : b - a ≥ 50
    · rw [if_pos (by simp; omega)]
      obtain ⟨q1, t1, g1, k1, k2⟩ := medAdj l (a + (b - a) / 4) 0 (by omega) (by omega) hn
      rw [g1]; simp only [Option.bind_some]
      obtain ⟨q2, t2, g2, k3, k4⟩ := medAdj l (a + (b - a) / 4 * 2) t1 (by omega) (by omega) hn
      rw [g2]; simp only [Option.bind_some]
      obtain ⟨q3, t3, g3, k5, k6⟩ := medAdj l (a + (b - a) / 4 * 3) t2 (by omega) (by omega) hn
      rw [g3]; simp only [Option.bind_some]
      unfold choosePivotOrdered_uint32.j2
      obtain ⟨q, t, e, h⟩ := med l q1 q2 q3 t3 (by omega) (by omega) (by omega)
      rw [e]; simp only [Option.bind_some]
      obtain ⟨u, hu⟩ := j1 t q
      exact ⟨q, u, hu, by omega, by omega⟩
    · rw [if_neg (by simp; omega)]
      unfold choosePivotOrdered_uint32.j2
      obtain ⟨q, t, e, h⟩ := med l (a + (b - a) / 4) (a + (b - a) / 4 * 2) (a + (b - a) / 4 * 3) 0 (by omega) (by omega) (by omega)
      rw [e]; simp only [Option.bind_some]
      obtain ⟨u, hu⟩ := j1 t q
      exact ⟨q, u, hu, by omega, by omega⟩
  · rw [if_neg (by simp; omega)]
    obtain ⟨u, hu⟩ := j1 0 (a + (b - a) / 4 * 2)
    exact ⟨_, u, hu, by omega, by omega⟩
end Go.Proofs.YticnjkdaccacaaaGreatDoor.Pl
end
section
/- math/bits.Len up to a thousand, by the kernel. -/
namespace Go.Proofs.YticnjkdaccacaaaGreatDoor.Pl
open Go Go.RowKit Sx Base Own QSortuint32uint32
set_option maxRecDepth 100000 in
theorem len_ok : (List.range 1001).all (fun n => Len.f (n : Int) == some ((if n = 0 then 0 else Nat.log2 n + 1 : Nat) : Int)) = true := by kernel_rfl
end Go.Proofs.YticnjkdaccacaaaGreatDoor.Pl
end
section
/- breakPatterns puts a range into another order. -/
namespace Go.Proofs.YticnjkdaccacaaaGreatDoor.Pl
open Go Go.RowKit Sx Base Own QSortuint32uint32

theorem and_le (x : Int) (m : Nat) (hm : m < 2 ^ 63) : 0 ≤ bitv .and .u64 x (m : Int) ∧ bitv .and .u64 x (m : Int) ≤ (m : Int) := by
  have e : (BitVec.ofInt 64 (m : Int)).toNat = m := by
    rw [BitVec.toNat_ofInt]; omega
  have h1 : ((BitVec.ofInt 64 x) &&& (BitVec.ofInt 64 (m : Int))).toNat ≤ m := by
    rw [BitVec.toNat_and, e]; exact Nat.and_le_right
  have h2 : bitv .and .u64 x (m : Int) = (((BitVec.ofInt 64 x) &&& (BitVec.ofInt 64 (m : Int))).toNat : Int) := by
    show IntKind.wrap .u64 _ = _
    refine IntWalk.u64_in _ ?_
    change 0 ≤ ((((BitVec.ofInt 64 x) &&& (BitVec.ofInt 64 (m : Int))).toNat : Nat) : Int) ∧ ((((BitVec.ofInt 64 x) &&& (BitVec.ofInt 64 (m : Int))).toNat : Nat) : Int) ≤ 18446744073709551615
    omega
  rw [h2]; omega
theorem len_is (n : Nat) (h : n ≤ 1000) : Len.f (n : Int) = some ((if n = 0 then 0 else Nat.log2 n + 1 : Nat) : Int) := by
  have := List.all_eq_true.1 len_ok n (List.mem_range.2 (by omega))
  simpa using this
theorem brk_loop (a b n L : Nat) (hab : a + 8 ≤ b) (hb : b ≤ n) (hn : n ≤ 1000) (hL : 2 ^ L ≤ 2 * (b - a)) (hL2 : L ≤ 20) : ∀ (m i : Nat) (x : Int) (l : List Int) (k : Nat), a + (b - a) / 4 * 2 + 2 - i ≤ m → a ≤ i → l.length = n → m + 1 ≤ k →
    ∃ r, breakPatternsOrdered_uint32.l1 k (a : Int) (b : Int) ((2 ^ L : Nat) : Int) n x l (i : Int) = some r ∧ r.length = n ∧ Sort.PermIn a b l.toArray r.toArray := by
  have e0 : IntKind.wrap .i64 ((b : Int) - (a : Int)) = ((b - a : Nat) : Int) := n64s (by omega) (by omega)
  have e1 : IntKind.wrap .i64 (Int.tdiv ((b - a : Nat) : Int) (4 : Int)) = (((b - a) / 4 : Nat) : Int) := n64s (by rw [Int.tdiv_eq_ediv_of_nonneg (by omega)]; omega) (by omega)
  have e3 : IntKind.wrap .i64 ((((b - a) / 4 : Nat) : Int) * (2 : Int)) = (((b - a) / 4 * 2 : Nat) : Int) := n64s (by omega) (by omega)
  have f3 : IntKind.wrap .i64 ((a : Int) + (((b - a) / 4 * 2 : Nat) : Int)) = ((a + (b - a) / 4 * 2 : Nat) : Int) := n64s (by omega) (by omega)
  have f4 : IntKind.wrap .i64 (((a + (b - a) / 4 * 2 : Nat) : Int) + (1 : Int)) = ((a + (b - a) / 4 * 2 + 1 : Nat) : Int) := n64s (by omega) (by omega)
  have hp : 1 ≤ 2 ^ L := Nat.one_le_two_pow
  have g1 : IntKind.wrap .u64 (((2 ^ L : Nat) : Int) - (1 : Int)) = ((2 ^ L - 1 : Nat) : Int) := by
    rw [IntWalk.u64_in _ ⟨by omega, by omega⟩]; omega
  intro m
  induction m with
  | zero =>
    intro i x l k hm hi hl hk
    obtain ⟨k, rfl⟩ : ∃ q, k = q + 1 := ⟨k - 1, by omega⟩
    unfold breakPatternsOrdered_uint32.l1
    rw [e0, e1, e3, f3, f4, if_neg (by simp; omega)]
    exact ⟨l, rfl, hl, Sort.permIn_refl _ _ _⟩
  | succ m ih =>
    intro i x l k hm hi hl hk
    obtain ⟨k, rfl⟩ : ∃ q, k = q + 1 := ⟨k - 1, by omega⟩
    unfold breakPatternsOrdered_uint32.l1
    rw [e0, e1, e3, f3, f4]
    by_cases h : i ≤ a + (b - a) / 4 * 2 + 1
    · rw [if_pos (by simp; omega)]
      obtain ⟨r, hr⟩ : ∃ r, Next.f x = some r := ⟨_, rfl⟩
      rw [hr, Option.bind_some, g1]
      obtain ⟨o, ho, ho2⟩ : ∃ o : Nat, bitv .and .u64 r.1 ((2 ^ L - 1 : Nat) : Int) = (o : Int) ∧ o ≤ 2 ^ L - 1 := by
        obtain ⟨q1, q2⟩ := and_le r.1 (2 ^ L - 1) (by omega)
        exact ⟨(bitv .and .u64 r.1 ((2 ^ L - 1 : Nat) : Int)).toNat, by omega, by omega⟩
      rw [ho, lt_is (n64 (by omega))]
      have fin : ∀ c : Nat, c < b - a → ∃ q, breakPatternsOrdered_uint32.j1 (breakPatternsOrdered_uint32.l1 k (a : Int) (b : Int) ((2 ^ L : Nat) : Int) n) (a : Int) n (i : Int) r l (c : Int) = some q ∧ q.length = n ∧ Sort.PermIn a b l.toArray q.toArray := by
        intro c hc
        unfold breakPatternsOrdered_uint32.j1
        have h1 : IntKind.wrap .i64 ((a : Int) + (c : Int)) = ((a + c : Nat) : Int) := n64s (by omega) (by omega)
        have h2 : IntKind.wrap .i64 ((i : Int) + (1 : Int)) = ((i + 1 : Nat) : Int) := n64s (by omega) (by omega)
        simp only [h1, h2, Int.toNat_natCast, if_pos (bs (show a + c < n by omega)), if_pos (bs (show i < n by omega))]
        obtain ⟨q, q1, q2, q3⟩ := ih (i + 1) r.2 ((l.set i (l.getD (a + c) 0)).set (a + c) (l.getD i 0)) k (by omega) (by omega) (by simp [hl]) (by omega)
        refine ⟨q, q1, q2, Sort.permIn_trans _ _ _ a b ?_ q3⟩
        rw [← ar_swp]
        exact Sort.swp_permIn _ a b i (a + c) hi (by omega) (by omega) (by omega) (by simp [hl]; omega)
      by_cases h2 : o ≥ b - a
      · rw [if_pos (by simp; omega), lt_is (n64s (n := o - (b - a)) (by omega) (by omega))]
        exact fin _ (by omega)
      · rw [if_neg (by simp; omega)]
        exact fin _ (by omega)
    · rw [if_neg (by simp; omega)]
      exact ⟨l, rfl, hl, Sort.permIn_refl _ _ _⟩
theorem brk_is (a b n : Nat) (hab : a ≤ b) (hb : b ≤ n) (hn : n ≤ 1000) (l : List Int) (hl : l.length = n) (k : Nat) (hk : n + 5 ≤ k) :
    ∃ r, breakPatternsOrdered_uint32.f k n l (a : Int) (b : Int) = some r ∧ r.length = n ∧ Sort.PermIn a b l.toArray r.toArray := by
  have e0 : IntKind.wrap .i64 ((b : Int) - (a : Int)) = ((b - a : Nat) : Int) := n64s (by omega) (by omega)
  unfold breakPatternsOrdered_uint32.f
  rw [e0]
  by_cases h8 : b - a ≥ 8
  · have e1 : IntKind.wrap .i64 (Int.tdiv ((b - a : Nat) : Int) (4 : Int)) = (((b - a) / 4 : Nat) : Int) := n64s (by rw [Int.tdiv_eq_ediv_of_nonneg (by omega)]; omega) (by omega)
    have e3 : IntKind.wrap .i64 ((((b - a) / 4 : Nat) : Int) * (2 : Int)) = (((b - a) / 4 * 2 : Nat) : Int) := n64s (by omega) (by omega)
    have f3 : IntKind.wrap .i64 ((a : Int) + (((b - a) / 4 * 2 : Nat) : Int)) = ((a + (b - a) / 4 * 2 : Nat) : Int) := n64s (by omega) (by omega)
    have f4 : IntKind.wrap .i64 (((a + (b - a) / 4 * 2 : Nat) : Int) - (1 : Int)) = ((a + (b - a) / 4 * 2 - 1 : Nat) : Int) := n64s (by omega) (by omega)
    have hne : b - a ≠ 0 := by omega
    have h1 : 2 ^ (b - a).log2 ≤ b - a := Nat.log2_self_le hne
    have h2 : (b - a).log2 < 10 := (Nat.log2_lt hne).2 (by omega)
    have h3 : 2 ^ ((b - a).log2 + 1) ≤ 2 * (b - a) := by rw [Nat.pow_succ]; omega
    have hN : nextPowerOfTwo.f ((b - a : Nat) : Int) = some ((2 ^ ((b - a).log2 + 1) : Nat) : Int) := by
      unfold nextPowerOfTwo.f
      rw [IntWalk.u64_in _ ⟨by omega, by omega⟩, len_is (b - a) (by omega), if_neg hne, Option.bind_some, if_pos (by omega)]
      rw [Int.toNat_natCast, Nat.min_eq_left (by omega), Int.one_mul]
      have hp : ((2 : Int) ^ ((b - a).log2 + 1)) = ((2 ^ ((b - a).log2 + 1) : Nat) : Int) := by simp
      rw [hp, IntWalk.u64_in _ ⟨Int.natCast_nonneg _, Int.ofNat_le.2 (show (2 ^ ((b - a).log2 + 1) : Nat) ≤ 18446744073709551615 by omega)⟩]
      rfl
    rw [if_pos (by simp; omega), hN, e1, e3, f3, lt_is rfl, Option.bind_some, lt_is f4]
    exact brk_loop a b n _ (by omega) hb hn h3 (by omega) (n + 3) _ _ l k (by omega) (by omega) hl (by omega)
  · rw [if_neg (by simp; omega)]
    exact ⟨l, rfl, hl, Sort.permIn_refl _ _ _⟩
end Go.Proofs.YticnjkdaccacaaaGreatDoor.Pl
end
section
/- The plain pdqsort sorts. -/
namespace Go.Proofs.YticnjkdaccacaaaGreatDoor.Pl
open Go Go.RowKit Sx Base Own QSortuint32uint32

def pdM (n : Nat) : Nat := (n + 3) * (2 * n + 5) + 6 * (3 * n + 10) + 3 * n + 20
/-- What a call is to come to. -/
def Srt (n a b : Nat) (l : List Int) (o : Option (List Int)) : Prop := ∃ r, o = some r ∧ r.length = n ∧ Sort.PermIn a b l.toArray r.toArray ∧ Sort.SortedIn Sort.ltInt a b r.toArray
theorem arr_list (d : Array Int) : d.toList.toArray = d := by simp
theorem pdq_ok (n : Nat) (hn : n ≤ 1000) : ∀ (m a b : Nat) (l : List Int) (lim : Int) (wb wp : Bool) (k kk : Nat), b - a ≤ m → a ≤ b → b ≤ n → l.length = n → Sort.Below Sort.ltInt a b l.toArray → pdM n + m + 1 ≤ k → pdM n + m + 2 ≤ kk →
    Srt n a b l (pdqsortOrdered_uint32.l1 k (pdqsortOrdered_uint32.f kk) n l (a : Int) (b : Int) lim wb wp) := by
  have hM1 : (n + 3) * (2 * n + 5) + 6 * (3 * n + 10) + 3 * n + 20 = pdM n := rfl
  have hS : Sort.SWO Sort.ltInt := Sort.swo_ltInt
  have hM2 : (n + 1) * (2 * n + 5) ≤ (n + 3) * (2 * n + 5) := Nat.mul_le_mul_right _ (by omega)
  intro m
  induction m with
  | zero =>
    intro a b l lim wb wp k kk hm hab hb hl hB hk hkk
    obtain ⟨k, rfl⟩ : ∃ q, k = q + 1 := ⟨k - 1, by omega⟩
    unfold pdqsortOrdered_uint32.l1
    rw [n64s (n := b - a) (by omega) (by omega), if_pos (by simp; omega), ins_is a b n hab hb (by omega) l hl k (by omega)]
    obtain ⟨q1, q2⟩ := Sort.insertionSort_holds hS l.toArray a b hab (by simpa [hl] using hb)
    exact ⟨_, rfl, by rw [Array.length_toList, q1.1]; simpa using hl, by rw [arr_list]; exact q1, by rw [arr_list]; exact q2⟩
  | succ m ih =>
    intro a b l lim wb wp k kk hm hab hb hl hB hk hkk
    obtain ⟨k, rfl⟩ : ∃ q, k = q + 1 := ⟨k - 1, by omega⟩
    obtain ⟨kk, rfl⟩ : ∃ q, kk = q + 1 := ⟨kk - 1, by omega⟩
    have e0 : IntKind.wrap .i64 ((b : Int) - (a : Int)) = ((b - a : Nat) : Int) := n64s (by omega) (by omega)
    have hbl : b ≤ l.toArray.size := by simpa [hl] using hb
    have J4 : ∀ (L : List Int) (p : Nat) (lim2 : Int), L.length = n → Sort.PermIn a b l.toArray L.toArray → a ≤ p → p < b → Srt n a b l (pdqsortOrdered_uint32.j4 k (pdqsortOrdered_uint32.f (kk + 1)) (pdqsortOrdered_uint32.l1 k (pdqsortOrdered_uint32.f (kk + 1)) n) n L (a : Int) (b : Int) (p : Int) lim2) := by
      intro L p lim2 hL hP hp1 hp2
      have hbL : b ≤ L.toArray.size := by simpa [hL] using hb
      unfold pdqsortOrdered_uint32.j4
      rw [part_is a b p n hp1 hp2 hb (by omega) L hL k (by omega), Option.bind_some]
      obtain ⟨g1, g2, hs4, hBa, hBr, hleft, hright⟩ := Sort.round_part (d4 := (Sort.partition Sort.ltInt L.toArray a b p).2.2) (mid := (Sort.partition Sort.ltInt L.toArray a b p).1) (ap := (Sort.partition Sort.ltInt L.toArray a b p).2.1) hS (Sort.partition_holds _) hp1 hp2 hbL (hB.perm hbl hP) rfl
      generalize (Sort.partition Sort.ltInt L.toArray a b p).1 = mid at *
      generalize (Sort.partition Sort.ltInt L.toArray a b p).2.1 = ap at *
      generalize (Sort.partition Sort.ltInt L.toArray a b p).2.2 = d4 at *
      have hd4 : d4.toList.length = n := by rw [Array.length_toList, hs4]; simpa using hL
      have e1 : IntKind.wrap .i64 ((mid : Int) - (a : Int)) = ((mid - a : Nat) : Int) := n64s (by omega) (by omega)
      have e2 : IntKind.wrap .i64 ((b : Int) - (mid : Int)) = ((b - mid : Nat) : Int) := n64s (by omega) (by omega)
      have e3 : IntKind.wrap .i64 ((mid : Int) + (1 : Int)) = ((mid + 1 : Nat) : Int) := n64s (by omega) (by omega)
      dsimp only
      rw [e1, e2, e3]
      simp only [lt_is rfl]
      split
      · obtain ⟨r1, q1, q2, q3, q4⟩ := ih a mid d4.toList lim2 true true kk kk (by omega) (by omega) (by omega) hd4 (by rw [arr_list]; exact hBa) (by omega) (by omega)
        have q1' : pdqsortOrdered_uint32.f (kk + 1) n d4.toList (a : Int) (mid : Int) lim2 = some r1 := q1
        rw [q1', Option.bind_some]
        rw [arr_list] at q3
        obtain ⟨hBL, hfin⟩ := hleft _ q3 q4
        obtain ⟨r2, s1, s2, s3, s4⟩ := ih (mid + 1) b r1 lim2 _ ap k (kk + 1) (by omega) (by omega) hb q2 hBL (by omega) (by omega)
        rw [s1]
        obtain ⟨f1, f2⟩ := hfin _ s3 s4
        exact ⟨r2, rfl, s2, Sort.permIn_trans _ _ _ a b hP f1, f2⟩
      · obtain ⟨r1, q1, q2, q3, q4⟩ := ih (mid + 1) b d4.toList lim2 true true kk kk (by omega) (by omega) hb hd4 (by rw [arr_list]; exact hBr) (by omega) (by omega)
        have q1' : pdqsortOrdered_uint32.f (kk + 1) n d4.toList ((mid + 1 : Nat) : Int) (b : Int) lim2 = some r1 := q1
        rw [q1', Option.bind_some]
        rw [arr_list] at q3
        obtain ⟨hBL, hfin⟩ := hright _ q3 q4
        obtain ⟨r2, s1, s2, s3, s4⟩ := ih a mid r1 lim2 _ ap k (kk + 1) (by omega) (by omega) (by omega) q2 hBL (by omega) (by omega)
        rw [s1]
        obtain ⟨f1, f2⟩ := hfin _ s3 s4
        exact ⟨r2, rfl, s2, Sort.permIn_trans _ _ _ a b hP f1, f2⟩
    have J3 : ∀ (L : List Int) (p : Nat) (lim2 : Int) (wb wp : Bool), L.length = n → Sort.PermIn a b l.toArray L.toArray → a ≤ p → p < b → Srt n a b l (pdqsortOrdered_uint32.j3 k (pdqsortOrdered_uint32.f (kk + 1)) (pdqsortOrdered_uint32.l1 k (pdqsortOrdered_uint32.f (kk + 1)) n) (a : Int) n (p : Int) (b : Int) lim2 wb wp L) := by
      intro L p lim2 wb wp hL hP hp1 hp2
      have hbL : b ≤ L.toArray.size := by simpa [hL] using hb
      unfold pdqsortOrdered_uint32.j3
      by_cases ha : 0 < a
      · have e1 : IntKind.wrap .i64 ((a : Int) - (1 : Int)) = ((a - 1 : Nat) : Int) := n64s (by omega) (by omega)
        rw [if_pos (by simp; omega), e1]
        simp only [Int.toNat_natCast, if_pos (bs (show a - 1 < n by omega)), if_pos (bs (show p < n by omega)), less_is, Option.bind_some]
        by_cases h2 : (!Sort.ltInt (L.getD (a - 1) 0) (L.getD p 0)) = true
        · rw [if_pos h2, peq_is a b p n hp1 hp2 hb (by omega) L hL k (by omega), Option.bind_some]
          obtain ⟨g1, g2, hs4, hB4, hfin⟩ := Sort.round_eq (d4 := (Sort.partitionEqual Sort.ltInt L.toArray a b p).2) (mid := (Sort.partitionEqual Sort.ltInt L.toArray a b p).1) hS (Sort.partitionEqual_holds _) ha hp1 hp2 hbL (hB.perm hbl hP) (by rw [ar_get, ar_get]; simpa using h2) rfl
          generalize (Sort.partitionEqual Sort.ltInt L.toArray a b p).1 = mid at *
          generalize (Sort.partitionEqual Sort.ltInt L.toArray a b p).2 = d4 at *
          obtain ⟨r2, s1, s2, s3, s4⟩ := ih mid b d4.toList lim2 wb wp k (kk + 1) (by omega) g2 hb (by rw [Array.length_toList, hs4]; simpa using hL) (by rw [arr_list]; exact hB4) (by omega) (by omega)
          dsimp only
          rw [s1]
          rw [arr_list] at s3
          obtain ⟨f1, f2⟩ := hfin _ s3 s4
          exact ⟨r2, rfl, s2, Sort.permIn_trans _ _ _ a b hP f1, f2⟩
        · rw [if_neg h2]
          exact J4 L p lim2 hL hP hp1 hp2
      · rw [if_neg (by simp; omega)]
        exact J4 L p lim2 hL hP hp1 hp2
    have J2 : ∀ (L : List Int) (p : Nat) (hint lim2 : Int), L.length = n → Sort.PermIn a b l.toArray L.toArray → a ≤ p → p < b → Srt n a b l (pdqsortOrdered_uint32.j2 k (pdqsortOrdered_uint32.f (kk + 1)) (pdqsortOrdered_uint32.l1 k (pdqsortOrdered_uint32.f (kk + 1)) n) wb wp n (a : Int) (b : Int) lim2 L (p : Int) hint) := by
      intro L p hint lim2 hL hP hp1 hp2
      have hbL : b ≤ L.toArray.size := by simpa [hL] using hb
      unfold pdqsortOrdered_uint32.j2
      split
      · split
        · split
          · rw [pins_is a b n (by omega) hb (by omega) L hL k (by omega), Option.bind_some]
            obtain ⟨q1, q2⟩ := Sort.partialInsertionSort_holds hS L.toArray a b (by omega) hbL (hB.perm hbl hP)
            dsimp only
            split
            · rename_i h
              exact ⟨_, rfl, by rw [Array.length_toList, q1.1]; simpa using hL, by rw [arr_list]; exact Sort.permIn_trans _ _ _ a b hP q1, by rw [arr_list]; exact q2 h⟩
            · exact J3 _ p lim2 wb wp (by rw [Array.length_toList, q1.1]; simpa using hL) (by rw [arr_list]; exact Sort.permIn_trans _ _ _ a b hP q1) hp1 hp2
          · exact J3 L p lim2 wb wp hL hP hp1 hp2
        · exact J3 L p lim2 wb wp hL hP hp1 hp2
      · exact J3 L p lim2 wb wp hL hP hp1 hp2
    have J1 : ∀ (L : List Int) (lim2 : Int), 12 < b - a → L.length = n → Sort.PermIn a b l.toArray L.toArray → Srt n a b l (pdqsortOrdered_uint32.j1 k (pdqsortOrdered_uint32.f (kk + 1)) (pdqsortOrdered_uint32.l1 k (pdqsortOrdered_uint32.f (kk + 1)) n) (a : Int) (b : Int) n wb wp L lim2) := by
      intro L lim2 h12 hL hP
      have hbL : b ≤ L.toArray.size := by simpa [hL] using hb
      unfold pdqsortOrdered_uint32.j1
      obtain ⟨p, t, e1, hp1, hp2⟩ := piv L a b (by omega) (by omega) (by omega)
      rw [e1, Option.bind_some]
      dsimp only
      split
      · rw [rev_is a b n (by omega) hb (by omega) L hL k (by omega), Option.bind_some]
        have q1 := Sort.reverseRange_holds L.toArray a b hab hbL
        have e2 : IntKind.wrap .i64 ((b : Int) - (1 : Int)) = ((b - 1 : Nat) : Int) := n64s (by omega) (by omega)
        have e3 : IntKind.wrap .i64 ((p : Int) - (a : Int)) = ((p - a : Nat) : Int) := n64s (by omega) (by omega)
        have e4 : IntKind.wrap .i64 (((b - 1 : Nat) : Int) - ((p - a : Nat) : Int)) = ((b - 1 - (p - a) : Nat) : Int) := n64s (by omega) (by omega)
        rw [lt_is (by rw [e2, e3, e4])]
        exact J2 _ _ _ _ (by rw [Array.length_toList, q1.1]; simpa using hL) (by rw [arr_list]; exact Sort.permIn_trans _ _ _ a b hP q1) (by omega) (by omega)
      · exact J2 L p t lim2 hL hP hp1 hp2
    unfold pdqsortOrdered_uint32.l1
    rw [e0]
    by_cases h12 : b - a ≤ 12
    · rw [if_pos (by simp; omega), ins_is a b n hab hb (by omega) l hl k (by omega)]
      obtain ⟨q1, q2⟩ := Sort.insertionSort_holds hS l.toArray a b hab hbl
      exact ⟨_, rfl, by rw [Array.length_toList, q1.1]; simpa using hl, by rw [arr_list]; exact q1, by rw [arr_list]; exact q2⟩
    · rw [if_neg (by simp; omega)]
      split
      · rw [heap_is a b n hab hb (by omega) l hl k (by omega)]
        obtain ⟨q1, q2⟩ := Sort.heapSort_holds hS l.toArray a b hab hbl
        exact ⟨_, rfl, by rw [Array.length_toList, q1.1]; simpa using hl, by rw [arr_list]; exact q1, by rw [arr_list]; exact q2⟩
      · split
        · obtain ⟨r, q1, q2, q3⟩ := brk_is a b n hab hb hn l hl k (by omega)
          rw [q1, Option.bind_some]
          exact J1 r _ (by omega) q2 q3
        · exact J1 l _ (by omega) hl (Sort.permIn_refl _ _ _)
end Go.Proofs.YticnjkdaccacaaaGreatDoor.Pl
end
section
/- The plain law of slices.Sort. -/
namespace Go.Proofs.YticnjkdaccacaaaGreatDoor.Sx
open Go Go.RowKit Base Own QSortuint32uint32 Pl
theorem sort_pl (l : List Int) (h : l.length ≤ 1000) : ∃ k, Sort_uint32_uint32.f k l.length l = some (l.mergeSort fun x y => decide (x ≤ y)) := by
  refine ⟨pdM l.length + l.length + 3 + 1, ?_⟩
  unfold Sort_uint32_uint32.f
  rw [IntWalk.u64_in _ ⟨by omega, by omega⟩, len_is l.length h, Option.bind_some]
  obtain ⟨r, q1, q2, q3, q4⟩ := pdq_ok l.length h l.length 0 l.length l ((if l.length = 0 then 0 else Nat.log2 l.length + 1 : Nat) : Int) true true (pdM l.length + l.length + 3) (pdM l.length + l.length + 3) (by omega) (by omega) (Nat.le_refl _) rfl (.inl rfl) (by omega) (by omega)
  have q1' : pdqsortOrdered_uint32.f (pdM l.length + l.length + 3 + 1) l.length l (0 : Int) (l.length : Int) ((if l.length = 0 then 0 else Nat.log2 l.length + 1 : Nat) : Int) = some r := q1
  rw [q1', Option.bind_some]
  have hu := Sort.sorted_unique_holds Sort.swo_ltInt (fun x y h1 h2 => by simp [Sort.ltInt] at h1 h2; omega) l.toArray r.toArray (by simpa using q3) (by simpa using q4)
  simp only at hu
  rw [hu]
  congr 2
  funext x y
  by_cases hxy : x ≤ y
  · simp [Sort.ltInt, hxy]
  · simp [Sort.ltInt, hxy]; omega
end Go.Proofs.YticnjkdaccacaaaGreatDoor.Sx
end
section
/- slices.Sorted(maps.Keys(m)), m a map of rows, walked. -/
namespace Go.Proofs.YticnjkdaccacaaaGreatDoor.Sx
open Go Go.RowKit Base Own QSortuint32uint32

def orcQ : Orc := ⟨[(3, .int .i64), (4, .bool), (86, .int .u32), (91, .slice 86), (174, .map 86 91)],
  [(3, 1), (86, 1), (91, 1), (174, 1)]⟩
theorem orcQ_ok : orcQ.Ok Tryz.prog := ⟨⟨Tryz.underlying3, Tryz.underlying4, Tryz.underlying86, Tryz.underlying91, Tryz.underlying174, trivial⟩, ⟨by kernel_rfl, by kernel_rfl, by kernel_rfl, by kernel_rfl, trivial⟩⟩
theorem enIter : Enters Tryz.prog 219 := fun _ _ => by kernel_rfl
theorem enAps : Enters Tryz.prog 254 := fun _ _ => by kernel_rfl
theorem enCol : Enters Tryz.prog 218 := fun _ _ => by kernel_rfl
theorem enSrt : Enters Tryz.prog 217 := fun _ _ => by kernel_rfl
set_option maxRecDepth 100000 in
set_option maxHeartbeats 1000000 in
/-- The keys come, each once, in some order. -/
theorem keys_iter {w0 w : World} {M : List Asn} {bx b lp : Nat} {m : List (Int × Rw)} {rec : Loop} (Z : List Int → Asn) (hc : m.length ≤ 100000) (hps : rec.params.size = 1)
    (S : Sat w0 w (Z [] :: objA (.loop rec) lp :: stA 174 bx [.map (some b)] :: mapA .u32 rwV b m :: M))
    (hround : ∀ (w : World) (l : List Int) (x : Int) (M : List Asn), (Lit.int .u32 x).wf = true → l.length < m.length → Sat w0 w (Z l :: objA (.loop rec) lp :: M) →
      RoundIn Fence.wide (3 - 1) Tryz.prog lp rec.fn ((rec.params.zip #[Value.int .u32 x]).foldl (fun tmps (t, a) => tmps.setIfInBounds t a) rec.tmps) rec.assign rec.body w fun e w' => e = .returned (.bool true) ∧ Sat w0 w' (Z (l ++ [x]) :: objA (.loop rec) lp :: M)) :
    Calls Tryz.prog 219 #[.func (.yield lp) #[] #[], .pointer (some ⟨bx, 0, none⟩)] w fun e w' => e = .returned (.tuple #[]) ∧ ∃ l, l.Perm (keysM m) ∧ Sat w0 w' (Z l :: objA (.loop rec) lp :: stA 174 bx [.map (some b)] :: mapA .u32 rwV b m :: M) := by
  refine calls_start (N := 14) [.func (.yield lp) #[] #[], .pointer (some ⟨bx, 0, none⟩)] Tryz.func219 rfl rfl rfl rfl fun a fr => ?_
  skip; (repeat (with_reducible refine wp_seq ?_)); refine wp_region_lit ?_
  refine wl_ldf orcQ_ok (Sat.varAt S 2 rfl) fr rfl rfl rfl rfl rfl rfl rfl fun a fr => ?_
  have S : Sat w0 _ (mapA .u32 rwV b m :: Z [] :: objA (.loop rec) lp :: stA 174 bx [.map (some b)] :: M) := S.frontAt 3 rfl
  refine wl_range orcQ_ok fr rfl rfl rfl rfl rfl rfl S ?_
  intro w1 r S a fr
  refine wpList_nil ?_; (repeat (with_reducible refine then_n ?_))
  refine wp_block ?_
  refine cw_loop (fun q a w => ∃ l left cur, left.length + 1 = q ∧ (l ++ left.map (·.1)).Perm (keysM m) ∧ Fr 14 a [(0, .func (.yield lp) #[] #[]), (5, .pointer (some ⟨r, 0, none⟩))] ∧
      Sat w0 w (iterA .u32 rwV b r m left cur :: Z l :: objA (.loop rec) lp :: stA 174 bx [.map (some b)] :: M)) (m.length + 1) ⟨[], m, none, rfl, List.Perm.refl _, fr.sub ⟨rfl, rfl, trivial⟩, S⟩ ?_ ?_
  · rintro a w ⟨l, left, cur, h, -⟩
    omega
  rintro q a w ⟨l, left, cur, hq, hp, fr, S⟩
  skip; (repeat (with_reducible refine wp_seq ?_)); refine wp_region_lit ?_
  refine wl_next (fun _ => rfl) fr rfl rfl rfl rfl rfl S ?_ ?_
  · intro hl a fr
    subst hl
    refine wl_run orcQ_ok 1 rfl fr fun a fr => ?_
    refine wpList_nil ?_; (repeat (with_reducible refine then_n ?_))
    skip; (repeat (with_reducible refine wp_seq ?_))
    refine cw_f fr rfl ?_
    refine wp_exit ?_
    skip; (repeat (first | (with_reducible refine then_e ?_) | (with_reducible refine ng_e ?_) | (with_reducible refine blk_e (by decide) ?_))); (with_reducible refine blk_y ?_); (repeat (with_reducible refine then_n ?_))
    refine end_ret ?_
    have S := S.iterEnd
    have S : Sat w0 _ (Z l :: objA (.loop rec) lp :: stA 174 bx [.map (some b)] :: mapA .u32 rwV b m :: M) := S.perm ((List.Perm.swap _ _ _).trans (List.Perm.cons _ ((List.Perm.swap _ _ _).trans (List.Perm.cons _ (List.Perm.swap _ _ _)))))
    refine ret0 fr rfl ?_
    exact ⟨rfl, l, by simpa using hp, S⟩
  · intro w2 p l1 l2 hl S1 a fr
    subst hl
    have S := S1
    clear S1
    refine wl_run orcQ_ok 1 rfl fr fun a fr => ?_
    refine wpList_nil ?_; (repeat (with_reducible refine then_n ?_))
    skip; (repeat (with_reducible refine wp_seq ?_))
    refine cw_t fr rfl ?_
    refine wp_skip ?_
    (repeat (with_reducible refine then_n ?_))
    refine wp_block ?_
    skip; (repeat (with_reducible refine wp_seq ?_)); refine wp_region_lit ?_
    refine wl_entry (fun _ => rfl) fr rfl rfl rfl rfl rfl S ?_
    intro a fr
    refine wl_run orcQ_ok 2 rfl fr fun a fr => ?_
    refine wpList_nil ?_; (repeat (with_reducible refine then_n ?_))
    skip; (repeat (with_reducible refine wp_seq ?_)); refine reg_out (n := 3) ?_
    refine wli_run orcQ_ok 2 rfl fr fun a fr => ?_
    have hlp := Sat.objAt S 2 rfl
    have hv := fr.int (d := 3) rfl
    have hlen := hp.length_eq
    simp only [List.length_append, List.length_map, List.length_cons, keysM] at hlen
    have S2 : Sat w0 _ (Z l :: objA (.loop rec) lp :: iterA .u32 rwV b r m (l1 ++ l2) (some p) :: stA 174 bx [.map (some b)] :: M) := S.perm ((List.Perm.swap _ _ _).trans (List.Perm.cons _ (List.Perm.swap _ _ _)))
    refine wli_yield fr rfl rfl rfl rfl rfl rfl rfl (run_yield (P := Tryz.prog) (args := #[.int .u32 p.1]) hlp (by rw [hps]; rfl)) (hround _ l p.1 _ hv (by omega) S2) ?_
    intro w3 S a fr
    refine wli_run orcQ_ok 1 rfl fr fun a fr => ?_
    refine wpListIn_nil ?_
    (repeat (with_reducible refine then_n ?_))
    skip; (repeat (with_reducible refine wp_seq ?_))
    refine cw_f fr rfl ?_
    refine wp_skip ?_
    refine blk_n ?_
    (repeat (with_reducible refine then_n ?_))
    have S : Sat w0 _ (iterA .u32 rwV b r m (l1 ++ l2) (some p) :: Z (l ++ [p.1]) :: objA (.loop rec) lp :: stA 174 bx [.map (some b)] :: M) := S.frontAt 2 rfl
    refine ⟨l ++ [p.1], l1 ++ l2, some p, by simp at hq ⊢; omega, ?_, fr.sub ⟨rfl, rfl, trivial⟩, S⟩
    refine List.Perm.trans ?_ hp
    rw [List.map_append, List.map_append, List.map_cons, List.append_assoc, List.singleton_append]
    exact List.Perm.append_left l List.perm_middle.symm
/-- A variable that holds a row of the call's own. -/
def varRow (B : Nat) (l : List Int) : Asn := exA fun p : Option Addr × Nat => sepA (stA 91 B [.slice p.1 l.length p.2]) (ownA .u32 86 p.1 p.2 l)
set_option maxRecDepth 100000 in
set_option maxHeartbeats 1000000 in
theorem appseq {w0 w : World} {M : List Asn} {bx b : Nat} {m : List (Int × Rw)} (hc : m.length ≤ 100000) (S : Sat w0 w (stA 174 bx [.map (some b)] :: mapA .u32 rwV b m :: M)) :
    Calls Tryz.prog 254 #[.slice none 0 0, .func (.func 219) #[] #[.pointer (some ⟨bx, 0, none⟩)]] w fun e w' => ∃ A c l, e = .returned (.slice A l.length c) ∧ vok (.slice A l.length c) = true ∧ l.Perm (keysM m) ∧ Sat w0 w' (ownA .u32 86 A c l :: stA 174 bx [.map (some b)] :: mapA .u32 rwV b m :: M) := by
  refine calls_marks (N := 13) [.slice none 0 0, .func (.func 219) #[] #[.pointer (some ⟨bx, 0, none⟩)]] Tryz.func254 rfl rfl rfl rfl fun a fr => ?_
  skip; (repeat (with_reducible refine wp_seq ?_)); refine wp_region_lit ?_
  refine wl_boxv fr rfl rfl rfl rfl rfl rfl S ?_
  intro w1 Bs S a fr
  refine wl_run orcQ_ok 1 rfl fr fun a fr => ?_
  refine wpList_nil ?_; (repeat (with_reducible refine then_n ?_))
  skip; (repeat (with_reducible refine wp_seq ?_)); refine wp_region_lit ?_
  refine wl_run orcQ_ok 1 rfl fr fun a fr => ?_
  refine wpList_nil ?_; (repeat (with_reducible refine then_n ?_))
  skip; (repeat (with_reducible refine wp_seq ?_))
  refine wp_block ?_
  have S := S.nilRow .u32 86
  have S : Sat w0 _ (stA 91 Bs [.slice none 0 0] :: ownA .u32 86 none 0 [] :: stA 174 bx [.map (some b)] :: mapA .u32 rwV b m :: M) := S.frontAt 1 rfl
  have S : Sat w0 _ (varRow Bs [] :: stA 174 bx [.map (some b)] :: mapA .u32 rwV b m :: M) := Sat.toEx (none, 0) S.toSep
  refine cw_rangeF fr rfl enIter S ?_
  intro fn lp D w2 S
  have S : Sat w0 _ (varRow Bs [] :: objA (.loop _) lp :: stA 174 bx [.map (some b)] :: mapA .u32 rwV b m :: objA (.deferred (some [])) D :: M) := (((S.frontAt 4 rfl).frontAt 4 rfl).frontAt 2 rfl).frontAt 4 rfl
  refine (keys_iter (varRow Bs) hc rfl S ?_).mono ?_
  · intro w3 l x M hx hl S
    have fr7 := fr.put (d := 7) (v := .int .u32 x) (by decide) hx
    have hact : a.put (some 7) (.int .u32 x) = { tmps := (#[7].zip #[Value.int .u32 x]).foldl (fun tmps (t, a) => tmps.setIfInBounds t a) a.tmps, defers := [] } := by
      have := fr.defers
      cases a
      simp only at this
      subst this
      simp [Act.put]
    rw [hact] at fr7
    refine roundIn_of_wpIn trivial ?_
    refine regIn (fun _ _ h => h) (by simp) ?_
    refine wl_run orcQ_ok 1 rfl fr7 fun a' fr => ?_
    refine wpList_nil ?_
    have hlp := Sat.objAt S 1 rfl
    refine ⟨_, run_beginRound hlp rfl, ?_⟩
    have S : Sat w0 _ (objA (.loop _) lp :: varRow Bs l :: M) := S.frontAt 1 rfl
    have S := S.putLoop fun r => { r with state := .busy }
    have S : Sat w0 _ (varRow Bs l :: objA (.loop _) lp :: M) := S.frontAt 1 rfl
    obtain ⟨⟨A, c⟩, S⟩ := S.ofEx
    have S := S.ofSep
    have hcl := S.tl.own
    refine wpIn_block ?_
    refine regIn (fun _ _ h => h) (by simp) ?_
    refine wl_ldf orcQ_ok (Sat.varAt S 0 rfl) fr rfl rfl rfl rfl rfl rfl rfl fun a' fr => ?_
    refine wl_run orcQ_ok 1 rfl fr fun a fr => ?_
    refine wl_lit (xs := [x]) orcQ_ok litW fr rfl rfl rfl rfl ⟨rfl, rfl, trivial⟩ rfl rfl S ?_
    intro w4 A4 c4 S a4 fr
    have hk := Sat.ownAt S 0 rfl
    have S : Sat w0 _ (ownA .u32 86 A c l :: ownA .u32 86 A4 c4 [x] :: stA 91 Bs [.slice A l.length c] :: objA (.loop _) lp :: M) := S.frontAt 2 rfl
    refine wl_app litW fr rfl rfl rfl rfl rfl rfl rfl rfl hk (by simp only [List.length_cons, List.length_nil]; omega) S ?_
    intro w5 A5 c5 S a5 fr
    have S : Sat w0 _ (ownA .u32 86 A5 c5 (l ++ [x]) :: stA 91 Bs [.slice A l.length c] :: objA (.loop _) lp :: M) := S.mask [true, false]
    have S : Sat w0 _ (stA 91 Bs [.slice A l.length c] :: ownA .u32 86 A5 c5 (l ++ [x]) :: objA (.loop _) lp :: M) := S.frontAt 1 rfl
    refine wl_stv orcQ_ok fr rfl rfl rfl rfl rfl rfl rfl rfl S ?_
    intro w6 S
    refine wpList_nil ?_
    have S : Sat w0 _ (varRow Bs (l ++ [x]) :: objA (.loop _) lp :: M) := Sat.toEx (A5, c5) S.toSep
    have S : Sat w0 _ (objA (.loop _) lp :: varRow Bs (l ++ [x]) :: M) := S.frontAt 1 rfl
    refine ⟨_, _, run_endRound none (Sat.objAt S 0 rfl), rfl, ?_⟩
    exact (S.putObj _).frontAt 1 rfl
  · rintro e w3 ⟨rfl, l, hp, S⟩
    refine ⟨⟨_, rfl⟩, Sat.objAt S 1 rfl, ?_⟩
    have S : Sat w0 _ (objA (.loop _) lp :: varRow Bs l :: stA 174 bx [.map (some b)] :: mapA .u32 rwV b m :: objA (.deferred (some [])) D :: M) := S.frontAt 1 rfl
    have S := S.putLoop fun r => { r with state := .exhausted }
    refine blk_n ?_
    (repeat (with_reducible refine then_n ?_))
    obtain ⟨tm, df⟩ := a
    have hdf : df = [] := fr.defers
    subst hdf
    skip; (repeat (with_reducible refine wp_seq ?_)); refine wp_region_lit ?_
    have S : Sat w0 _ (varRow Bs l :: objA (.loop _) lp :: stA 174 bx [.map (some b)] :: mapA .u32 rwV b m :: objA (.deferred (some [])) D :: M) := S.frontAt 1 rfl
    obtain ⟨⟨A, c⟩, S⟩ := S.ofEx
    have S := S.ofSep
    have hcl := S.tl.own
    have hv := Sat.varAt S 0 rfl
    have fr2 := fr.put (d := 12) (v := .slice A l.length c) (by decide) hv.2
    have fr3 := fr2.put (d := 4) (v := .slice A l.length c) (by decide) hv.2
    refine wl_raw (v := .slice A l.length c) rfl (load_run orcQ_ok fr (o := ⟨some 12, .load 91 (.tmp 2), 0, "", #[], none⟩) rfl rfl rfl rfl hv.1) ?_
    refine wl_raw (v := .slice A l.length c) rfl (congrArg (fun v => Result.ok (Next.value v) _) (fr2.ev (o := .tmp 12) rfl).1) ?_
    refine wpList_nil ?_; (repeat (with_reducible refine then_n ?_))
    refine wp_ret ?_
    refine ⟨by simp, .inl ⟨_, _, rfl, run_takeDeferred (Sat.objAt S 5 rfl), ?_⟩⟩
    have S : Sat w0 _ (objA (.deferred (some [])) D :: stA 91 Bs [.slice A l.length c] :: ownA .u32 86 A c l :: objA (.loop _) lp :: stA 174 bx [.map (some b)] :: mapA .u32 rwV b m :: M) := S.frontAt 5 rfl
    have S := S.putObj (.deferred none)
    have S : Sat w0 _ (ownA .u32 86 A c l :: stA 174 bx [.map (some b)] :: mapA .u32 rwV b m :: M) := S.mask [false, false, true, false]
    refine ⟨.slice A l.length c, ?_, A, c, l, rfl, hv.2, hp, S⟩
    rw [results_tmp rfl, Array.getD_eq_getD_getElem?]
    exact congrArg (fun (o : Option Value) => Result.ok (o.getD undef) _) (fr3.get 4 _ rfl).1
theorem collect_walk {w0 w : World} {M : List Asn} {bx b : Nat} {m : List (Int × Rw)} (hc : m.length ≤ 100000) (S : Sat w0 w (stA 174 bx [.map (some b)] :: mapA .u32 rwV b m :: M)) :
    Calls Tryz.prog 218 #[.func (.func 219) #[] #[.pointer (some ⟨bx, 0, none⟩)]] w fun e w' => ∃ A c l, e = .returned (.slice A l.length c) ∧ vok (.slice A l.length c) = true ∧ l.Perm (keysM m) ∧ Sat w0 w' (ownA .u32 86 A c l :: stA 174 bx [.map (some b)] :: mapA .u32 rwV b m :: M) := by
  refine calls_start (N := 5) [.func (.func 219) #[] #[.pointer (some ⟨bx, 0, none⟩)]] Tryz.func218 rfl rfl rfl rfl fun a fr => ?_
  skip; (repeat (with_reducible refine wp_seq ?_)); refine wp_region_lit ?_
  refine wl_run orcQ_ok 1 rfl fr fun a fr => ?_
  refine wpList_nil ?_; (repeat (with_reducible refine then_n ?_))
  skip; (repeat (with_reducible refine wp_seq ?_)); refine wp_region_lit ?_
  refine wl_run orcQ_ok 1 rfl fr fun a fr => ?_
  refine wl_call fr rfl rfl rfl rfl enAps (appseq hc S) ?_
  rintro _ w1 ⟨A, c, l, rfl, hv, hp, S⟩
  refine ⟨_, rfl, hv, fun a fr => ?_⟩
  refine wl_run orcQ_ok 1 rfl fr fun a fr => ?_
  refine wpList_nil ?_; (repeat (with_reducible refine then_n ?_))
  refine wp_ret ?_
  refine ret1 fr rfl rfl ?_
  exact ⟨A, c, l, rfl, hv, hp, S⟩
/-- Rising. -/
def risen (l : List Int) : List Int := l.mergeSort fun x y => decide (x ≤ y)
theorem risen_perm {l m : List Int} (h : l.Perm m) : risen l = risen m := by
  refine List.Perm.eq_of_pairwise (le := fun x y => x ≤ y) (fun a b _ _ h1 h2 => Int.le_antisymm h1 h2) ?_ ?_ ((List.mergeSort_perm _ _).trans (h.trans (List.mergeSort_perm _ _).symm))
  all_goals
    have := List.pairwise_mergeSort (le := fun (x y : Int) => decide (x ≤ y)) (fun a b c h1 h2 => by simp only [decide_eq_true_eq] at *; omega) (fun a b => by simp only [Bool.or_eq_true, decide_eq_true_eq]; omega)
    first
      | simpa [risen] using this l
      | simpa [risen] using this m
theorem sorted_walk {w0 w : World} {M : List Asn} {bx b : Nat} {m : List (Int × Rw)} (hc : m.length ≤ 1000) (S : Sat w0 w (stA 174 bx [.map (some b)] :: mapA .u32 rwV b m :: M)) :
    Calls Tryz.prog 134 #[.func (.func 219) #[] #[.pointer (some ⟨bx, 0, none⟩)]] w fun e w' => ∃ A c, e = .returned (.slice A (risen (keysM m)).length c) ∧ vok (.slice A (risen (keysM m)).length c) = true ∧ Sat w0 w' (ownA .u32 86 A c (risen (keysM m)) :: mapA .u32 rwV b m :: M) := by
  refine calls_start (N := 9) [.func (.func 219) #[] #[.pointer (some ⟨bx, 0, none⟩)]] Tryz.func134 rfl rfl rfl rfl fun a fr => ?_
  skip; (repeat (with_reducible refine wp_seq ?_)); refine wp_region_lit ?_
  refine wl_run orcQ_ok 1 rfl fr fun a fr => ?_
  refine wpList_nil ?_; (repeat (with_reducible refine then_n ?_))
  skip; (repeat (with_reducible refine wp_seq ?_)); refine wp_region_lit ?_
  refine wl_run orcQ_ok 1 rfl fr fun a fr => ?_
  refine wl_call fr rfl rfl rfl rfl enCol (collect_walk (by omega) S) ?_
  rintro _ w1 ⟨A, c, l, rfl, hv, hp, S⟩
  refine ⟨_, rfl, hv, fun a fr => ?_⟩
  refine wl_run orcQ_ok 1 rfl fr fun a fr => ?_
  refine wpList_nil ?_; (repeat (with_reducible refine then_n ?_))
  have hlen : l.length ≤ 1000 := by rw [hp.length_eq]; simpa [keysM] using hc
  obtain ⟨k, hk⟩ := sort_pl l hlen
  have S := S.toRow
  skip; (repeat (with_reducible refine wp_seq ?_)); refine wp_region_lit ?_
  refine wl_run orcQ_ok 1 rfl fr fun a fr => ?_
  refine wl_call fr rfl rfl rfl rfl enSrt (Sort_uint32_uint32.walk k A c l.length l (fr.slice (d := 6) rfl) S hk) ?_
  rintro _ w2 ⟨rfl, S⟩
  refine ⟨_, rfl, rfl, fun a fr => ?_⟩
  refine wpList_nil ?_; (repeat (with_reducible refine then_n ?_))
  skip; (repeat (with_reducible refine wp_seq ?_)); refine wp_region_lit ?_
  refine wl_run orcQ_ok 2 rfl fr fun a fr => ?_
  refine wpList_nil ?_; (repeat (with_reducible refine then_n ?_))
  refine wp_ret ?_
  refine ret1 fr rfl rfl ?_
  have hr : (l.mergeSort fun x y => decide (x ≤ y)) = risen (keysM m) := risen_perm hp
  rw [hr] at S
  have hv := fr.vok (d := 2) rfl
  obtain ⟨en, S⟩ := S.ofRow
  rw [← en] at hv ⊢
  exact ⟨A, c, rfl, hv, S.mask [true, false]⟩
/-- maps.Keys: the iterator, over a variable that holds the map. -/
theorem keys_call {w0 w : World} {M : List Asn} {b : Nat} (S : Sat w0 w M) :
    Calls Tryz.prog 135 #[.map (some b)] w fun e w' => ∃ bx, e = .returned (.func (.func 219) #[] #[.pointer (some ⟨bx, 0, none⟩)]) ∧ Sat w0 w' (stA 174 bx [.map (some b)] :: M) := by
  refine calls_start (N := 4) [.map (some b)] Tryz.func135 rfl rfl rfl rfl fun a fr => ?_
  skip; (repeat (with_reducible refine wp_seq ?_)); refine wp_region_lit ?_
  refine wl_boxv fr rfl rfl rfl rfl rfl rfl S ?_
  intro w1 bx S a fr
  refine wl_val (v := .nilFunc) fr rfl rfl rfl rfl rfl fun a fr => ?_
  refine wpList_nil ?_; (repeat (with_reducible refine then_n ?_))
  skip; (repeat (with_reducible refine wp_seq ?_)); refine wp_region_lit ?_
  refine wl_makef (xs := [.pointer (some ⟨bx, 0, none⟩)]) fr rfl rfl rfl rfl rfl ?_
  intro a fr
  refine wl_run orcQ_ok 1 rfl fr fun a fr => ?_
  refine wpList_nil ?_; (repeat (with_reducible refine then_n ?_))
  refine wp_ret ?_
  refine ret1 fr rfl rfl ?_
  exact ⟨bx, rfl, S⟩
end Go.Proofs.YticnjkdaccacaaaGreatDoor.Sx
end
section
/- slices.ContainsFunc over those that have not been told, walked. -/
namespace Go.Proofs.YticnjkdaccacaaaGreatDoor.Sx
open Go Go.RowKit Base Own

/-- The variable that holds the map of those that were told. -/
def Told (w : World) (bt g : Nat) (tm : List (Int × Int)) : Prop := (w.cell? (⟨bt, 0, none⟩ : Addr) = some (.map (some g))) ∧ ∃ es clock, w.heap[g]? = some (.map es clock) ∧ Tells .u32 (Value.int .i64) es clock tm
theorem enOrd1 : Enters Tryz.prog 137 := fun _ _ => by kernel_rfl
theorem enIdxF : Enters Tryz.prog 220 := fun _ _ => by kernel_rfl
theorem told_f {w : World} {bt g : Nat} {tm : List (Int × Int)} (y : Int) (hy : (Lit.int .u32 y).wf = true) (H : Told w bt g tm) : Calls Tryz.prog 137 #[.int .u32 y, .pointer (some ⟨bt, 0, none⟩)] w fun e w' => e = .returned (.bool ((lkM tm y).getD 0 == 0)) ∧ w' = w := by
  refine calls_start (N := 8) [.int .u32 y, .pointer (some ⟨bt, 0, none⟩)] Tryz.func137 rfl rfl rfl (vok_c hy (vok_c rfl rfl)) fun a fr => ?_
  skip; (repeat (with_reducible refine wp_seq ?_)); refine wp_region_lit ?_
  refine wl_run orcW_ok 1 rfl fr fun a fr => ?_
  refine wpList_nil ?_; (repeat (with_reducible refine then_n ?_))
  skip; (repeat (with_reducible refine wp_seq ?_)); refine wp_region_lit ?_
  refine wl_ldf orcW_ok ⟨H.1, rfl⟩ fr rfl rfl rfl rfl rfl rfl rfl fun a fr => ?_
  refine wl_run orcW_ok 1 rfl fr fun a fr => ?_
  refine wl_lk (f := Value.int .i64) orcW_ok (0 : Int) zeroI rfl H.2 fr rfl rfl rfl rfl rfl rfl rfl rfl fun a fr => ?_
  refine wl_run orcW_ok 2 rfl fr fun a fr => ?_
  refine wpList_nil ?_; (repeat (with_reducible refine then_n ?_))
  refine wp_ret ?_
  refine ret1 fr rfl rfl ?_
  exact ⟨rfl, rfl⟩
set_option maxRecDepth 100000 in
theorem indexf {w : World} {bt g : Nat} {tm : List (Int × Int)} {A : Option Addr} {c : Nat} {l : List Int} (hr : Rk .u32 w A l) (m0 : l.length ≤ c ∧ c ≤ maxLen) (hb : l.length ≤ 1000000) (H : Told w bt g tm) : Calls Tryz.prog 220 #[.slice A l.length c, .func (.func 137) #[] #[.pointer (some ⟨bt, 0, none⟩)]] w fun e w' => ∃ r : Int, e = .returned (.int .i64 r) ∧ vok (.int .i64 r) = true ∧ (decide (r ≥ 0) = l.any fun y => (lkM tm y).getD 0 == 0) ∧ w' = w := by
  refine calls_start (N := 19) [.slice A l.length c, .func (.func 137) #[] #[.pointer (some ⟨bt, 0, none⟩)]] Tryz.func220 rfl rfl rfl (vok_c (vok_sl m0) (vok_c rfl rfl)) fun a fr => ?_
  skip; (repeat (with_reducible refine wp_seq ?_)); refine wp_region_lit ?_
  refine wl_run orcW_ok 1 rfl fr fun a fr => ?_
  refine wpList_nil ?_; (repeat (with_reducible refine then_n ?_))
  skip; (repeat (with_reducible refine wp_seq ?_)); refine wp_region_lit ?_
  refine wl_run orcW_ok 3 rfl fr fun a fr => ?_
  refine wpList_nil ?_; (repeat (with_reducible refine then_n ?_))
  refine wp_block ?_
  refine cw_loop (fun q a w2 => ∃ i : Nat, i + q = l.length + 1 ∧ i ≤ l.length ∧ w2 = w ∧ (∀ y ∈ l.take i, ((lkM tm y).getD 0 == 0) = false) ∧ Fr 19 a [(0, .slice A l.length c), (1, .func (.func 137) #[] #[.pointer (some ⟨bt, 0, none⟩)]), (7, .int .i64 (l.length : Int)), (8, .int .i64 (i : Int))]) (l.length + 1) ⟨0, by omega, by omega, rfl, by simp, fr.sub ⟨rfl, rfl, rfl, rfl, trivial⟩⟩ ?_ ?_
  · rintro a w2 ⟨i, h, h', -⟩
    omega
  rintro q a w2 ⟨i, hi, hi', hw2, hno, fr⟩
  subst w2
  skip; (repeat (with_reducible refine wp_seq ?_)); refine wp_region_lit ?_
  refine wl_run orcW_ok 1 rfl fr fun a fr => ?_
  refine wpList_nil ?_; (repeat (with_reducible refine then_n ?_))
  by_cases hlt : i < l.length
  rotate_left
  · obtain rfl : i = l.length := by omega
    have fr := fr.bool (d := 9) rfl (decide_eq_false (by omega))
    skip; (repeat (with_reducible refine wp_seq ?_))
    refine cw_f fr rfl ?_
    refine wp_exit ?_
    skip; (repeat (first | (with_reducible refine then_e ?_) | (with_reducible refine ng_e ?_) | (with_reducible refine blk_e (by decide) ?_))); (with_reducible refine blk_y ?_); (repeat (with_reducible refine then_n ?_))
    skip; (repeat (with_reducible refine wp_seq ?_)); refine wp_region_lit ?_
    refine wl_run orcW_ok 1 rfl fr fun a fr => ?_
    refine wpList_nil ?_; (repeat (with_reducible refine then_n ?_))
    refine wp_ret ?_
    refine ret1 fr rfl rfl ?_
    refine ⟨-1, rfl, rfl, ?_, rfl⟩
    rw [List.take_length] at hno
    have : (l.any fun y => (lkM tm y).getD 0 == 0) = false := List.any_eq_false.2 (fun y hy => by rw [hno y hy]; decide)
    rw [this]; rfl
  have fr := fr.bool (d := 9) rfl (decide_eq_true (show (i : Int) < (l.length : Int) by omega))
  skip; (repeat (with_reducible refine wp_seq ?_))
  refine cw_t fr rfl ?_
  refine wp_skip ?_
  (with_reducible refine then_n ?_)
  obtain ⟨y, hy⟩ : ∃ y, l.getD i 0 = y := ⟨_, rfl⟩
  have hge : l[i] = y := by rw [← hy, List.getD_eq_getElem?_getD, List.getElem?_eq_getElem hlt]; rfl
  have hye : l.take (i + 1) = l.take i ++ [y] := by rw [List.take_succ_eq_append_getElem hlt, hge]
  have hym : y ∈ l := by rw [← hge]; exact List.getElem_mem hlt
  skip; (repeat (with_reducible refine wp_seq ?_))
  refine wp_block ?_
  skip; (repeat (with_reducible refine wp_seq ?_)); refine wp_region_lit ?_
  refine wl_run orcW_ok 2 rfl fr fun a fr => ?_
  refine wpList_nil ?_; (repeat (with_reducible refine then_n ?_))
  skip; (repeat (with_reducible refine wp_seq ?_)); refine wp_region_lit ?_
  refine wl_run orcW_ok 3 rfl fr fun a fr => ?_
  refine wl_ld orcW_ok hr fr rfl rfl rfl rfl rfl rfl rfl rfl rfl rfl rfl rfl rfl rfl rfl rfl ⟨by omega, by omega⟩ fun a fr => ?_
  rw [Int.toNat_natCast, hy] at fr
  refine wl_callc fr rfl rfl rfl rfl rfl rfl rfl enOrd1 (told_f y (fr.int (d := 15) rfl) H) ?_
  rintro _ w3 ⟨rfl, hw3⟩
  subst w3
  refine ⟨_, rfl, rfl, fun a fr => ?_⟩
  refine wpList_nil ?_; (repeat (with_reducible refine then_n ?_))
  cases ht : ((lkM tm y).getD 0 == 0) with
  | true =>
    have fr := fr.bool (d := 16) rfl ht
    skip; (repeat (with_reducible refine wp_seq ?_))
    refine cw_t fr rfl ?_
    skip; (repeat (with_reducible refine wp_seq ?_)); refine wp_region_lit ?_
    refine wl_run orcW_ok 2 rfl fr fun a fr => ?_
    refine wpList_nil ?_; (repeat (with_reducible refine then_n ?_))
    refine wp_ret ?_
    skip; (repeat (first | (with_reducible refine then_r ?_) | (with_reducible refine blk_r ?_) | (with_reducible refine ng_r ?_)))
    refine ret1 fr rfl rfl ?_
    refine ⟨i, rfl, fr.vok (d := 4) rfl, ?_, rfl⟩
    have : (l.any fun y => (lkM tm y).getD 0 == 0) = true := List.any_eq_true.2 ⟨y, hym, ht⟩
    rw [this, decide_eq_true]; omega
  | false =>
    have fr := fr.bool (d := 16) rfl ht
    skip; (repeat (with_reducible refine wp_seq ?_))
    refine cw_f fr rfl ?_
    refine wp_skip ?_
    refine blk_n ?_
    (repeat (with_reducible refine then_n ?_))
    skip; (repeat (with_reducible refine wp_seq ?_)); refine wp_region_lit ?_
    refine wl_run orcW_ok 2 rfl fr fun a fr => ?_
    refine wpList_nil ?_; (repeat (with_reducible refine then_n ?_))
    have fr := fr.spell (d := 8) rfl (congrArg (Value.int .i64) (Pl.w64s (n := i) (by omega)))
    refine ⟨i + 1, by omega, by omega, rfl, fun z hz => ?_, fr.sub ⟨rfl, rfl, rfl, rfl, trivial⟩⟩
    rw [hye] at hz
    rcases List.mem_append.1 hz with hz | hz
    · exact hno z hz
    · rw [List.mem_singleton] at hz; rw [hz]; exact ht
theorem containsf {w : World} {bt g : Nat} {tm : List (Int × Int)} {A : Option Addr} {c : Nat} {l : List Int} (hr : Rk .u32 w A l) (m0 : l.length ≤ c ∧ c ≤ maxLen) (hb : l.length ≤ 1000000) (H : Told w bt g tm) : Calls Tryz.prog 136 #[.slice A l.length c, .func (.func 137) #[] #[.pointer (some ⟨bt, 0, none⟩)]] w fun e w' => e = .returned (.bool (l.any fun y => (lkM tm y).getD 0 == 0)) ∧ w' = w := by
  refine calls_start (N := 9) [.slice A l.length c, .func (.func 137) #[] #[.pointer (some ⟨bt, 0, none⟩)]] Tryz.func136 rfl rfl rfl (vok_c (vok_sl m0) (vok_c rfl rfl)) fun a fr => ?_
  skip; (repeat (with_reducible refine wp_seq ?_)); refine wp_region_lit ?_
  refine wl_run orcW_ok 1 rfl fr fun a fr => ?_
  refine wpList_nil ?_; (repeat (with_reducible refine then_n ?_))
  skip; (repeat (with_reducible refine wp_seq ?_)); refine wp_region_lit ?_
  refine wl_run orcW_ok 2 rfl fr fun a fr => ?_
  refine wl_call fr rfl rfl rfl rfl enIdxF (indexf hr m0 hb H) ?_
  rintro _ w2 ⟨r, rfl, hv, hd, hw⟩
  subst w2
  refine ⟨_, rfl, hv, fun a fr => ?_⟩
  refine wl_run orcW_ok 2 rfl fr fun a fr => ?_
  refine wpList_nil ?_; (repeat (with_reducible refine then_n ?_))
  refine wp_ret ?_
  refine ret1 fr rfl rfl ?_
  exact ⟨by rw [hd], rfl⟩
end Go.Proofs.YticnjkdaccacaaaGreatDoor.Sx
end
section
/- slices.Delete of one number, walked. -/
namespace Go.Proofs.YticnjkdaccacaaaGreatDoor.Sx
open Go Go.RowKit Base Own

def orcD : Orc := ⟨[(3, .int .i64), (4, .bool), (86, .int .u32), (91, .slice 86)], [(3, 1), (86, 1)]⟩
theorem orcD_ok : orcD.Ok Tryz.prog := ⟨⟨Tryz.underlying3, Tryz.underlying4, Tryz.underlying86, Tryz.underlying91, trivial⟩, ⟨by kernel_rfl, by kernel_rfl, trivial⟩⟩
theorem litD : RowTy Tryz.prog 91 86 .u32 := ⟨Tryz.underlying91, 4, by decide, by kernel_rfl⟩
theorem infoD : (Tryz.prog.info? 86).map (·.size) = some 1 := by kernel_rfl
set_option maxRecDepth 100000 in
set_option maxHeartbeats 1000000 in
theorem delete_walk {w0 w : World} {R : List Asn} {A : Option Addr} {c : Nat} {l : List Int} (i : Nat) (hi : i < l.length) (hb : l.length ≤ 1000000) (S : Sat w0 w (ownA .u32 86 A c l :: R)) :
    Calls Tryz.prog 138 #[.slice A l.length c, .int .i64 i, .int .i64 ((i + 1 : Nat) : Int)] w fun e w' => e = .returned (.slice A (l.eraseIdx i).length c) ∧ vok (.slice A (l.eraseIdx i).length c) = true ∧ Sat w0 w' (ownA .u32 86 A c (l.eraseIdx i) :: R) := by
  have hown := S.own
  have m0 := hown.2
  refine calls_start (N := 33) [.slice A l.length c, .int .i64 i, .int .i64 ((i + 1 : Nat) : Int)] Tryz.func138 rfl rfl rfl (vok_c (vok_sl m0) (vok_c (vok_len (by have := m0.2; omega)) (vok_c (vok_len (by have := m0.2; omega)) rfl))) fun a fr => ?_
  skip; (repeat (with_reducible refine wp_seq ?_)); refine wp_region_lit ?_
  refine wl_run orcD_ok 1 rfl fr fun a fr => ?_
  refine wpList_nil ?_; (repeat (with_reducible refine then_n ?_))
  skip; (repeat (with_reducible refine wp_seq ?_)); refine wp_region_lit ?_
  refine wl_run orcD_ok 5 rfl fr fun a fr => ?_
  refine wl_val fr rfl rfl rfl (slice_run orcD_ok fr (vlo := some (.int .i64 i)) (vhi := some (.int .i64 ((i + 1 : Nat) : Int))) (vmx := some (.int .i64 (l.length : Int))) rfl rfl (by exact congrArg some (fr.ev (o := .tmp 9) rfl).1) (by exact congrArg some (fr.ev (o := .tmp 10) rfl).1) (by exact congrArg some (fr.ev (o := .tmp 12) rfl).1) rfl (sl_cut _ 86 .i64 .i64 .i64 Tryz.underlying91 infoD A l.length c i (i + 1) l.length _ _ _ rfl rfl rfl (by omega) (by omega) m0.1) w) (vok_sl ⟨by omega, by omega⟩) fun a fr => ?_
  refine wpList_nil ?_; (repeat (with_reducible refine then_n ?_))
  skip; (repeat (with_reducible refine wp_seq ?_)); refine wp_region_lit ?_
  refine wl_run orcD_ok 3 rfl fr fun a fr => ?_
  refine wpList_nil ?_; (repeat (with_reducible refine then_n ?_))
  have fr := fr.bool (d := 16) rfl (show ((i : Int) == ((i + 1 : Nat) : Int)) = false by simp; omega)
  skip; (repeat (with_reducible refine wp_seq ?_))
  refine cw_f fr rfl ?_
  refine wp_skip ?_
  (repeat (with_reducible refine then_n ?_))
  skip; (repeat (with_reducible refine wp_seq ?_)); refine wp_region_lit ?_
  refine wl_run orcD_ok 3 rfl fr fun a fr => ?_
  refine wpList_nil ?_; (repeat (with_reducible refine then_n ?_))
  have hlit := litD
  obtain ⟨hl1, hl2⟩ : (l.take i).length = i ∧ (l.drop (i + 1)).length = l.length - (i + 1) := ⟨by rw [List.length_take]; omega, List.length_drop⟩
  have hrk : Rk .u32 w.drew (dropA A c (i + 1)) (l.drop (i + 1)) := ((Sat.ownAt S.drew 0 rfl).drop m0.1)
  have hSt : Sat w0 w.drew (ownA .u32 86 A c (l.take i) :: R) := S.drew.takeTo i
  skip; (repeat (with_reducible refine wp_seq ?_))
  refine wp_region_sl [.one (0, true, some 20), .one (1, true, some 21), .one (2, true, some 22), .one (3, true, some 23), .one (4, true, some 24), .one (5, true, some 25), .one (6, false, some 26), .one (7, true, some 0)]
                [.one ⟨true, some 20, (Go.Op.move (Go.Operand.tmp 0)), 91, none⟩,
                .one ⟨true, some 21, (Go.Op.move (Go.Operand.tmp 1)), 3, none⟩,
                .one ⟨true, some 22, (Go.Op.slice 91 (Go.Operand.tmp 20) none (some (Go.Operand.tmp 21)) none), 91, none⟩,
                .one ⟨true, some 23, (Go.Op.move (Go.Operand.tmp 0)), 91, none⟩,
                .one ⟨true, some 24, (Go.Op.move (Go.Operand.tmp 2)), 3, none⟩,
                .one ⟨true, some 25, (Go.Op.slice 91 (Go.Operand.tmp 23) (some (Go.Operand.tmp 24)) none none), 91, none⟩,
                .one ⟨false, some 26, (Go.Op.call { callee := (Go.Callee.builtin Go.Builtin.append), args := #[(Go.Operand.tmp 22), (Go.Operand.tmp 25)], argTypes := #[91, 91] }), 91, none⟩,
                .one ⟨true, some 0, (Go.Op.assign (Go.Operand.tmp 26)), 91, none⟩]
                (fun _ => True) rfl (by kernel_rfl) (by kernel_rfl) ?_ ?_
  · trivial
  refine sl_run orcD_ok 2 rfl fr fun a fr => ?_
  refine sl_q fr rfl rfl rfl rfl (v := .slice A (l.take i).length c) (fun w _ => slice_run orcD_ok fr (vlo := none) (vhi := some (.int .i64 i)) (vmx := none) rfl rfl rfl (by exact congrArg some (fr.ev (o := .tmp 21) rfl).1) rfl rfl (by rw [hl1]; exact sl_take _ 86 .i64 Tryz.underlying91 infoD A l.length c i (by omega)) w) (vok_sl ⟨by omega, m0.2⟩) fun a fr => ?_
  refine sl_run orcD_ok 2 rfl fr fun a fr => ?_
  refine sl_q fr rfl rfl rfl rfl (v := .slice (dropA A c (i + 1)) (l.drop (i + 1)).length (c - (i + 1))) (fun w _ => slice_run orcD_ok fr (vlo := some (.int .i64 ((i + 1 : Nat) : Int))) (vhi := none) (vmx := none) rfl rfl (by exact congrArg some (fr.ev (o := .tmp 24) rfl).1) rfl rfl rfl (by rw [hl2]; exact sl_drop _ 86 .i64 Tryz.underlying91 infoD A l.length c (i + 1) (by omega)) w) (vok_sl ⟨by omega, by omega⟩) fun a fr => ?_
  have he : l.take i ++ l.drop (i + 1) = l.eraseIdx i := (List.eraseIdx_eq_take_drop_succ l i).symm
  have hel : (l.eraseIdx i).length + 1 = l.length := by rw [List.length_eraseIdx_of_lt hi]; omega
  refine sl_appin litD fr rfl rfl rfl rfl rfl rfl rfl rfl rfl hrk (by omega) (by omega) hSt ?_
  intro w2 S
  refine ⟨trivial, fun a fr => ?_⟩
  rw [he] at S fr
  refine sl_run orcD_ok 1 rfl fr fun a fr => ?_
  refine sl_end ?_
  (repeat (with_reducible refine then_n ?_))
  skip; (repeat (with_reducible refine wp_seq ?_)); refine wp_region_lit ?_
  refine wl_run orcD_ok 4 rfl fr fun a fr => ?_
  refine wl_val fr rfl rfl rfl (slice_run orcD_ok fr (vlo := some (.int .i64 ((l.eraseIdx i).length : Int))) (vhi := some (.int .i64 (l.length : Int))) (vmx := none) rfl rfl (by exact congrArg some (fr.ev (o := .tmp 29) rfl).1) (by exact congrArg some (fr.ev (o := .tmp 30) rfl).1) rfl rfl (sl_mid _ 86 .i64 .i64 Tryz.underlying91 infoD A (l.eraseIdx i).length c (l.eraseIdx i).length l.length _ _ rfl rfl (by omega) m0.1) w2) (vok_sl ⟨by omega, by omega⟩) fun a fr => ?_
  obtain ⟨w3, hc, S⟩ := clear_exec (P := Tryz.prog) (o := ⟨none, .call { callee := .builtin .clear, args := #[.tmp 31], argTypes := #[91] }, 0, "", #[], none⟩) litD fr rfl rfl (Nat.le_refl _) (by omega) (by omega) S
  refine wl_val0 fr rfl rfl hc ?_
  refine wpList_nil ?_; (repeat (with_reducible refine then_n ?_))
  skip; (repeat (with_reducible refine wp_seq ?_)); refine wp_region_lit ?_
  refine wl_run orcD_ok 2 rfl fr fun a fr => ?_
  refine wpList_nil ?_; (repeat (with_reducible refine then_n ?_))
  refine wp_ret ?_
  refine ret1 fr rfl rfl ?_
  exact ⟨rfl, fr.vok (d := 6) rfl, S⟩
end Go.Proofs.YticnjkdaccacaaaGreatDoor.Sx
end
