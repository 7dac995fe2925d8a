/- The plain heap sort is the kit's. -/
import Derived.Test.YtjdholnlbhkmeaaPins
namespace Go.Proofs.Ytjdholnlbhkmeaa.Pl
open Go Go.RowKit Sx Base Own QSortuint32uint32

theorem siftSize (hi first : Nat) : ∀ (m root : Nat) (d : Array Int), hi - root ≤ m → (Sort.siftDown Sort.ltInt hi first root d).size = d.size := by
  intro m
  induction m with
  | zero => intro root d h; unfold Sort.siftDown; rw [dif_pos (by omega)]
  | succ m ih =>
    intro root d h
    unfold Sort.siftDown
    split
    · rfl
    · split
      · split
        · rfl
        · split
          · rw [ih _ _ (by omega)]; simp [Sort.swp]
          · rfl
      · split
        · rfl
        · rw [ih _ _ (by omega)]; simp [Sort.swp]
theorem sift_j (hi first n : Nat) (hn : n ≤ 1000000000000) (hf : first + hi ≤ n) (kl : List Int → Int → Option (List Int)) (l : List Int) (root c : Nat) (hl : l.length = n) (hr : root < hi) (hc : c < hi) :
    siftDownOrdered_uint32.j1 kl (first : Int) (root : Int) n l (c : Int) = if (!Sort.ltInt (l.getD (first + root) 0) (l.getD (first + c) 0)) = true then some l else kl ((l.set (first + root) (l.getD (first + c) 0)).set (first + c) (l.getD (first + root) 0)) (c : Int) := by
  unfold siftDownOrdered_uint32.j1
  have e1 : IntKind.wrap .i64 ((first : Int) + (root : Int)) = ((first + root : Nat) : Int) := n64s (by omega) (by omega)
  have e2 : IntKind.wrap .i64 ((first : Int) + (c : Int)) = ((first + c : Nat) : Int) := n64s (by omega) (by omega)
  simp only [e1, e2, Int.toNat_natCast, less_is, Option.bind_some, if_pos (bs (show first + root < n by omega)), if_pos (bs (show first + c < n by omega))]
theorem sift_is (hi first n : Nat) (hn : n ≤ 1000000000000) (hf : first + hi ≤ n) : ∀ (m root : Nat) (l : List Int) (k : Nat), hi - root ≤ m → root ≤ n → l.length = n → m + 1 ≤ k →
    siftDownOrdered_uint32.l1 k (hi : Int) (first : Int) n l (root : Int) = some (Sort.siftDown Sort.ltInt hi first root l.toArray).toList := by
  intro m
  induction m with
  | zero =>
    intro root l k hm hr hl hk
    obtain ⟨k, rfl⟩ : ∃ q, k = q + 1 := ⟨k - 1, by omega⟩
    unfold siftDownOrdered_uint32.l1 Sort.siftDown
    have e0 : IntKind.wrap .i64 ((2 : Int) * (root : Int)) = ((2 * root : Nat) : Int) := n64s (by omega) (by omega)
    have e1 : IntKind.wrap .i64 (((2 * root : Nat) : Int) + (1 : Int)) = ((2 * root + 1 : Nat) : Int) := n64s (by omega) (by omega)
    rw [lt_is (by rw [e0, e1]), if_pos (by simp; omega), dif_pos (by omega)]
  | succ m ih =>
    intro root l k hm hr hl hk
    obtain ⟨k, rfl⟩ : ∃ q, k = q + 1 := ⟨k - 1, by omega⟩
    unfold siftDownOrdered_uint32.l1 Sort.siftDown
    have e0 : IntKind.wrap .i64 ((2 : Int) * (root : Int)) = ((2 * root : Nat) : Int) := n64s (by omega) (by omega)
    have e1 : IntKind.wrap .i64 (((2 * root : Nat) : Int) + (1 : Int)) = ((2 * root + 1 : Nat) : Int) := n64s (by omega) (by omega)
    rw [lt_is (by rw [e0, e1])]
    by_cases h1 : 2 * root + 1 ≥ hi
    · rw [if_pos (by simp; omega), dif_pos h1]
    · have e2 : IntKind.wrap .i64 (((2 * root + 1 : Nat) : Int) + (1 : Int)) = ((2 * root + 2 : Nat) : Int) := n64s (by omega) (by omega)
      have e3 : IntKind.wrap .i64 ((first : Int) + ((2 * root + 1 : Nat) : Int)) = ((first + (2 * root + 1) : Nat) : Int) := n64s (by omega) (by omega)
      have e4 : IntKind.wrap .i64 (((first + (2 * root + 1) : Nat) : Int) + (1 : Int)) = ((first + (2 * root + 1) + 1 : Nat) : Int) := n64s (by omega) (by omega)
      rw [if_neg (by simp; omega), dif_neg h1]
      simp only [e2, e3, e4, Int.toNat_natCast, less_is, Option.bind_some, ar_get, ar_swp]
      have last : ∀ c, c < hi → root < c → (siftDownOrdered_uint32.j1 (siftDownOrdered_uint32.l1 k (hi : Int) (first : Int) n) (first : Int) (root : Int) n l (c : Int)) = some (if (!Sort.ltInt (l.getD (first + root) 0) (l.getD (first + c) 0)) = true then l.toArray else Sort.siftDown Sort.ltInt hi first c ((l.set (first + root) (l.getD (first + c) 0)).set (first + c) (l.getD (first + root) 0)).toArray).toList := by
        intro c hc hrc
        rw [sift_j hi first n hn hf _ l root c hl (by omega) hc]
        split
        · rfl
        · exact ih c _ k (by omega) (by omega) (by simp [hl]) (by omega)
      by_cases h2 : 2 * root + 2 < hi
      · rw [if_pos (by simp; omega), if_pos (bs (show first + (2 * root + 1) < n by omega)), if_pos (bs (show first + (2 * root + 1) + 1 < n by omega))]
        by_cases h3 : Sort.ltInt (l.getD (first + (2 * root + 1)) 0) (l.getD (first + (2 * root + 1) + 1) 0) = true
        · rw [if_pos h3, if_pos (by rw [h3, Bool.and_true]; exact decide_eq_true h2), last (2 * root + 2) h2 (by omega), dif_pos h2]
        · rw [if_neg h3, if_neg (by rw [Bool.and_eq_true]; exact fun q => h3 q.2), last (2 * root + 1) (by omega) (by omega)]
      · rw [if_neg (by simp; omega), if_neg (by rw [Bool.and_eq_true]; exact fun q => h2 (of_decide_eq_true q.1)), last (2 * root + 1) (by omega) (by omega)]
theorem siftf_is (hi first n root : Nat) (hn : n ≤ 1000000000000) (hf : first + hi ≤ n) (hr : root ≤ n) (l : List Int) (hl : l.length = n) (k : Nat) (hk : hi + 1 ≤ k) (x y z : Int) (hx : x = (root : Int)) (hy : y = (hi : Int)) (hz : z = (first : Int)) :
    siftDownOrdered_uint32.f k n l x y z = some (Sort.siftDown Sort.ltInt hi first root l.toArray).toList := by
  subst hx hy hz
  exact sift_is hi first n hn hf hi root l k (by omega) hr hl hk
theorem pop_is (first n : Nat) (hn : n ≤ 1000000000000) : ∀ (q : Nat) (l : List Int) (k : Nat), first + q ≤ n → l.length = n → n + 1 ≤ k →
    heapSortOrdered_uint32.l2 (q + 1 + k) (first : Int) n l ((q : Int) - 1) = some (Sort.heapPop Sort.ltInt first q l.toArray).toList := by
  intro q
  induction q with
  | zero =>
    intro l k hq hl hk
    rw [show 0 + 1 + k = k + 1 from by omega]
    unfold heapSortOrdered_uint32.l2 Sort.heapPop
    rw [if_neg (by simp)]
  | succ q ih =>
    intro l k hq hl hk
    rw [show q + 1 + 1 + k = (q + 1 + k) + 1 from by omega]
    unfold heapSortOrdered_uint32.l2 Sort.heapPop
    have e0 : (((q + 1 : Nat) : Int) - 1) = (q : Int) := by omega
    have e1 : IntKind.wrap .i64 ((first : Int) + (q : Int)) = ((first + q : Nat) : Int) := n64s (by omega) (by omega)
    have e2 : IntKind.wrap .i64 ((q : Int) - (1 : Int)) = (q : Int) - 1 := w64 (by omega) (by omega)
    rw [e0, if_pos (by simp)]
    simp only [e1, e2, Int.toNat_natCast, if_pos (bs (show first + q < n by omega)), if_pos (bs (show first < n by omega)), ar_swp]
    rw [siftf_is q first n 0 hn (by omega) (by omega) _ (by simp [hl]) (q + 1 + k) (by omega) (0 : Int) _ _ rfl rfl rfl, Option.bind_some]
    exact ih _ k (by omega) (by rw [Array.length_toList, siftSize q first q 0 _ (by omega)]; simp [hl]) hk
theorem build_is (a b n : Nat) (hab : a ≤ b) (hb : b ≤ n) (hn : n ≤ 1000000000000) : ∀ (q : Nat) (l : List Int) (k : Nat), q ≤ n + 1 → l.length = n → n + 1 ≤ k →
    heapSortOrdered_uint32.l1 (q + 1 + k) n (b : Int) (a : Int) l ((q : Int) - 1) = heapSortOrdered_uint32.l2 k (a : Int) n (Sort.heapBuild Sort.ltInt (b - a) a q l.toArray).toList (((b - a : Nat) : Int) - 1) := by
  intro q
  have e0 : IntKind.wrap .i64 ((b : Int) - (a : Int)) = ((b - a : Nat) : Int) := n64s (by omega) (by omega)
  have e3 : IntKind.wrap .i64 (((b - a : Nat) : Int) - (1 : Int)) = ((b - a : Nat) : Int) - 1 := w64 (by omega) (by omega)
  induction q with
  | zero =>
    intro l k hq hl hk
    rw [show 0 + 1 + k = k + 1 from by omega]
    unfold heapSortOrdered_uint32.l1 Sort.heapBuild
    rw [if_neg (by simp), lt_is (by rw [e0, e3])]
  | succ q ih =>
    intro l k hq hl hk
    rw [show q + 1 + 1 + k = (q + 1 + k) + 1 from by omega]
    unfold heapSortOrdered_uint32.l1 Sort.heapBuild
    have e1 : (((q + 1 : Nat) : Int) - 1) = (q : Int) := by omega
    have e2 : IntKind.wrap .i64 ((q : Int) - (1 : Int)) = (q : Int) - 1 := w64 (by omega) (by omega)
    rw [e1, if_pos (by simp), siftf_is (b - a) a n q hn (by omega) (by omega) l hl (q + 1 + k) (by omega) _ _ _ rfl e0 rfl, Option.bind_some, e2]
    exact ih _ k (by omega) (by rw [Array.length_toList, siftSize (b - a) a (b - a) q _ (by omega)]; simp [hl]) hk
theorem buildSize (hi first : Nat) : ∀ (q : Nat) (d : Array Int), (Sort.heapBuild Sort.ltInt hi first q d).size = d.size := by
  intro q
  induction q with
  | zero => intro d; rfl
  | succ q ih => intro d; unfold Sort.heapBuild; rw [ih, siftSize hi first hi q _ (by omega)]
theorem heap_is (a b n : Nat) (hab : a ≤ b) (hb : b ≤ n) (hn : n ≤ 1000000000000) (l : List Int) (hl : l.length = n) (k : Nat) (hk : 3 * n + 10 ≤ k) :
    heapSortOrdered_uint32.f k n l (a : Int) (b : Int) = some (Sort.heapSort Sort.ltInt l.toArray a b).toList := by
  unfold heapSortOrdered_uint32.f Sort.heapSort
  have e0 : IntKind.wrap .i64 ((b : Int) - (a : Int)) = ((b - a : Nat) : Int) := n64s (by omega) (by omega)
  have e3 : IntKind.wrap .i64 (((b - a : Nat) : Int) - (1 : Int)) = ((b - a : Nat) : Int) - 1 := w64 (by omega) (by omega)
  have e4 : (((b - a : Nat) : Int) - 1).tdiv 2 = ((((b - a - 1) / 2 + 1 : Nat) : Int) - 1) := by
    rcases Nat.eq_zero_or_pos (b - a) with h | h
    · rw [h]; rfl
    · rw [show ((b - a : Nat) : Int) - 1 = ((b - a - 1 : Nat) : Int) from by omega, Int.tdiv_eq_ediv_of_nonneg (by omega)]; omega
  rw [lt_is (by rw [e0, e3, e4, w64 (by omega) (by omega)])]
  obtain ⟨k1, rfl⟩ : ∃ q, k = ((b - a - 1) / 2 + 1) + 1 + q := ⟨k - (((b - a - 1) / 2 + 1) + 1), by omega⟩
  rw [build_is a b n hab hb hn _ l k1 (by omega) hl (by omega)]
  obtain ⟨k2, rfl⟩ : ∃ q, k1 = (b - a) + 1 + q := ⟨k1 - ((b - a) + 1), by omega⟩
  exact pop_is a n hn (b - a) _ k2 (by omega) (by rw [Array.length_toList, buildSize]; simp [hl]) (by omega)
end Go.Proofs.Ytjdholnlbhkmeaa.Pl
