/- Texts of this work, one behind the other. -/
import Derived.Test.YticnjkdaccacaaaGreatVChiefsStay5
import Derived.IntWalk
import Derived.Sort.AssemblyPlain
import Derived.Sort.LotC
import Derived.Sort.Lot0
import Derived.Sort.LotD3
import Derived.Test.YticnjkdaccacaaaGreatProg
import Derived.Laws.RangeString
set_option maxRecDepth 100000
set_option maxHeartbeats 16000000
section
namespace Go.Proofs.YticnjkdaccacaaaGreat.Pl
open Go Go.RowKit Sx Base Oq
theorem w64 {x : Int} (h0 : -9223372036854775808 ≤ x) (h1 : x ≤ 9223372036854775807) : IntKind.wrap .i64 x = x := IntWalk.i64_in x ⟨h0, h1⟩
theorem tm {x m : Int} (h0 : 0 ≤ x) : Int.tmod x m = x % m := Int.tmod_eq_emod_of_nonneg h0
theorem df {p : Prop} [Decidable p] (h : ¬ p) : decide p = false := by simp [h]
end Go.Proofs.YticnjkdaccacaaaGreat.Pl
end
section
namespace Go.Proofs.YticnjkdaccacaaaGreat.Pl
open Go Go.RowKit Sx Base Oq QS
theorem ar_get (l : List Int) (i : Nat) : l.toArray[i]! = l.getD i 0 := by
 simp [List.getD_eq_getElem?_getD, getElem!_def]
 cases l[i]? <;> rfl
theorem ar_swp (l : List Int) (i j : Nat) : Sort.swp l.toArray i j = ((l.set i (l.getD j 0)).set j (l.getD i 0)).toArray := by
 unfold Sort.swp
 rw [ar_get, ar_get]
 simp
theorem less_is (x y : Int) : Less_uint32.f x y = some (Sort.ltInt x y) := by
 unfold Less_uint32.f isNaN_uint32.f
 simp [Sort.ltInt]
theorem n64 {n : Nat} (h : n ≤ 4611686018427387904) : IntKind.wrap .i64 (n : Int) = (n : Int) := w64 (by omega) (by omega)
theorem n64s {n : Nat} {x : Int} (hx : x = ((n : Nat) : Int)) (h : n ≤ 4611686018427387904) : IntKind.wrap .i64 x = (n : Int) := by subst hx; exact n64 h
theorem bs {n i : Nat} (h : i < n) : (0 : Int) ≤ (i : Int) ∧ (i : Int) < (n : Int) := by omega
theorem insIn (kl : List Int → Int → Option (List Int)) (a n : Nat) (x : Int) (hn : n ≤ 4611686018427387904) : ∀ (j : Nat) (l : List Int) (k : Nat), l.length = n → j < n → j + 1 ≤ k →
  is_.l2 k kl (a : Int) n x l (j : Int) = is_.j1 kl x (Sort.insInner Sort.ltInt a j l.toArray).toList := by
 intro j
 induction j with
 | zero =>
  intro l k hl hj hk
  obtain ⟨k, rfl⟩ : ∃ q, k = q + 1 := ⟨k - 1, by omega⟩
  unfold is_.l2 Sort.insInner
  rw [if_neg (by simp)]
 | succ j ih =>
  intro l k hl hj hk
  obtain ⟨k, rfl⟩ : ∃ q, k = q + 1 := ⟨k - 1, by omega⟩
  unfold is_.l2 Sort.insInner
  have e1 : IntKind.wrap .i64 (((j + 1 : Nat) : Int) - (1 : Int)) = (j : Int) := n64s (by omega) (by omega)
  simp only [e1, Int.toNat_natCast, less_is, Option.bind_some, if_pos (bs hj), if_pos (bs (show j < n by omega)), ar_get, ar_swp]
  by_cases h1 : j + 1 > a
  ·rw [if_pos (by simp; omega)]
   by_cases h2 : Sort.ltInt (l.getD (j + 1) 0) (l.getD j 0) = true
   ·rw [if_pos h2, if_pos (by rw [h2, Bool.and_true]; exact decide_eq_true h1)]
    exact ih _ _ (by simp [hl]) (by omega) (by omega)
   ·rw [if_neg h2, if_neg (by rw [Bool.and_eq_true]; exact fun q => h2 q.2)]
  ·rw [if_neg (by simp; omega), if_neg (by simp [h1])]
theorem insLen (a : Nat) : ∀ (j : Nat) (d : Array Int), (Sort.insInner Sort.ltInt a j d).size = d.size := by
 intro j
 induction j with
 | zero => intro d; rfl
 | succ j ih =>
  intro d
  unfold Sort.insInner
  split
  ·rw [ih]; simp [Sort.swp]
  ·rfl
theorem insOut (a b n : Nat) (hb : b ≤ n) (hn : n ≤ 4611686018427387000) : ∀ (m i : Nat) (l : List Int) (k : Nat), b - i ≤ m → l.length = n → i ≤ n + 1 → m + n + 2 ≤ k →
  is_.l1 k (b : Int) (a : Int) n l (i : Int) = some (Sort.insOuter Sort.ltInt a b i l.toArray).toList := by
 intro m
 induction m with
 | zero =>
  intro i l k hm hl hi hk
  obtain ⟨k, rfl⟩ : ∃ q, k = q + 1 := ⟨k - 1, by omega⟩
  unfold is_.l1 Sort.insOuter
  rw [if_neg (by simp; omega), if_neg (by omega)]
 | succ m ih =>
  intro i l k hm hl hi hk
  obtain ⟨k, rfl⟩ : ∃ q, k = q + 1 := ⟨k - 1, by omega⟩
  unfold is_.l1 Sort.insOuter
  by_cases h : i < b
  ·rw [if_pos (by simp; omega), if_pos h, insIn _ a n _ (by omega) i l k hl (by omega) (by omega)]
   unfold is_.j1
   rw [n64s (n := i + 1) (by omega) (by omega)]
   have := ih (i + 1) (Sort.insInner Sort.ltInt a i l.toArray).toList k (by omega) (by simp [insLen, hl]) (by omega) (by omega)
   simpa using this
  ·rw [if_neg (by simp; omega), if_neg h]
theorem ins_is (a b n : Nat) (hab : a ≤ b) (hb : b ≤ n) (hn : n ≤ 4611686018427387000) (l : List Int) (hl : l.length = n) (k : Nat) (hk : b + n + 2 ≤ k) :
  is_.f k n l (a : Int) (b : Int) = some (Sort.insertionSort Sort.ltInt l.toArray a b).toList := by
 unfold is_.f Sort.insertionSort
 rw [n64s (n := a + 1) (by omega) (by omega)]
 exact insOut a b n hb hn b (a + 1) l k (by omega) hl (by omega) hk
theorem siftSize (hi first : Nat) : ∀ (m root : Nat) (d : Array Int), hi - root ≤ m → (Sort.siftDown Sort.ltInt hi first root d).size = d.size := by
 intro m
 induction m with
 | zero => intro root d h; unfold Sort.siftDown; rw [dif_pos (by omega)]
 | succ m ih =>
  intro root d h
  unfold Sort.siftDown
  split
  ·rfl
  ·split
   ·split
    ·rfl
    ·split
     ·rw [ih _ _ (by omega)]; simp [Sort.swp]
     ·rfl
   ·split
    ·rfl
    ·rw [ih _ _ (by omega)]; simp [Sort.swp]
theorem sift_j (hi first n : Nat) (hn : n ≤ 1000000000000) (hf : first + hi ≤ n) (kl : List Int → Int → Option (List Int)) (l : List Int) (root c : Nat) (hl : l.length = n) (hr : root < hi) (hc : c < hi) :
  sd_.j1 kl (first : Int) (root : Int) n l (c : Int) = if (!Sort.ltInt (l.getD (first + root) 0) (l.getD (first + c) 0)) = true then some l else kl ((l.set (first + root) (l.getD (first + c) 0)).set (first + c) (l.getD (first + root) 0)) (c : Int) := by
 unfold sd_.j1
 have e1 : IntKind.wrap .i64 ((first : Int) + (root : Int)) = ((first + root : Nat) : Int) := n64s (by omega) (by omega)
 have e2 : IntKind.wrap .i64 ((first : Int) + (c : Int)) = ((first + c : Nat) : Int) := n64s (by omega) (by omega)
 simp only [e1, e2, Int.toNat_natCast, less_is, Option.bind_some, if_pos (bs (show first + root < n by omega)), if_pos (bs (show first + c < n by omega))]
theorem sift_is (hi first n : Nat) (hn : n ≤ 1000000000000) (hf : first + hi ≤ n) : ∀ (m root : Nat) (l : List Int) (k : Nat), hi - root ≤ m → root ≤ n → l.length = n → m + 1 ≤ k →
  sd_.l1 k (hi : Int) (first : Int) n l (root : Int) = some (Sort.siftDown Sort.ltInt hi first root l.toArray).toList := by
 intro m
 induction m with
 | zero =>
  intro root l k hm hr hl hk
  obtain ⟨k, rfl⟩ : ∃ q, k = q + 1 := ⟨k - 1, by omega⟩
  unfold sd_.l1 Sort.siftDown
  have e0 : IntKind.wrap .i64 ((2 : Int) * (root : Int)) = ((2 * root : Nat) : Int) := n64s (by omega) (by omega)
  have e1 : IntKind.wrap .i64 (((2 * root : Nat) : Int) + (1 : Int)) = ((2 * root + 1 : Nat) : Int) := n64s (by omega) (by omega)
  rw [lt_is (by rw [e0, e1]), if_pos (by simp; omega), dif_pos (by omega)]
 | succ m ih =>
  intro root l k hm hr hl hk
  obtain ⟨k, rfl⟩ : ∃ q, k = q + 1 := ⟨k - 1, by omega⟩
  unfold sd_.l1 Sort.siftDown
  have e0 : IntKind.wrap .i64 ((2 : Int) * (root : Int)) = ((2 * root : Nat) : Int) := n64s (by omega) (by omega)
  have e1 : IntKind.wrap .i64 (((2 * root : Nat) : Int) + (1 : Int)) = ((2 * root + 1 : Nat) : Int) := n64s (by omega) (by omega)
  rw [lt_is (by rw [e0, e1])]
  by_cases h1 : 2 * root + 1 ≥ hi
  ·rw [if_pos (by simp; omega), dif_pos h1]
  ·have e2 : IntKind.wrap .i64 (((2 * root + 1 : Nat) : Int) + (1 : Int)) = ((2 * root + 2 : Nat) : Int) := n64s (by omega) (by omega)
   have e3 : IntKind.wrap .i64 ((first : Int) + ((2 * root + 1 : Nat) : Int)) = ((first + (2 * root + 1) : Nat) : Int) := n64s (by omega) (by omega)
   have e4 : IntKind.wrap .i64 (((first + (2 * root + 1) : Nat) : Int) + (1 : Int)) = ((first + (2 * root + 1) + 1 : Nat) : Int) := n64s (by omega) (by omega)
   rw [if_neg (by simp; omega), dif_neg h1]
   simp only [e2, e3, e4, Int.toNat_natCast, less_is, Option.bind_some, ar_get, ar_swp]
   have last : ∀ c, c < hi → root < c → (sd_.j1 (sd_.l1 k (hi : Int) (first : Int) n) (first : Int) (root : Int) n l (c : Int)) = some (if (!Sort.ltInt (l.getD (first + root) 0) (l.getD (first + c) 0)) = true then l.toArray else Sort.siftDown Sort.ltInt hi first c ((l.set (first + root) (l.getD (first + c) 0)).set (first + c) (l.getD (first + root) 0)).toArray).toList := by
    intro c hc hrc
    rw [sift_j hi first n hn hf _ l root c hl (by omega) hc]
    split
    ·rfl
    ·exact ih c _ k (by omega) (by omega) (by simp [hl]) (by omega)
   by_cases h2 : 2 * root + 2 < hi
   ·rw [if_pos (by simp; omega), if_pos (bs (show first + (2 * root + 1) < n by omega)), if_pos (bs (show first + (2 * root + 1) + 1 < n by omega))]
    by_cases h3 : Sort.ltInt (l.getD (first + (2 * root + 1)) 0) (l.getD (first + (2 * root + 1) + 1) 0) = true
    ·rw [if_pos h3, if_pos (by rw [h3, Bool.and_true]; exact decide_eq_true h2), last (2 * root + 2) h2 (by omega), dif_pos h2]
    ·rw [if_neg h3, if_neg (by rw [Bool.and_eq_true]; exact fun q => h3 q.2), last (2 * root + 1) (by omega) (by omega)]
   ·rw [if_neg (by simp; omega), if_neg (by rw [Bool.and_eq_true]; exact fun q => h2 (of_decide_eq_true q.1)), last (2 * root + 1) (by omega) (by omega)]
theorem siftf_is (hi first n root : Nat) (hn : n ≤ 1000000000000) (hf : first + hi ≤ n) (hr : root ≤ n) (l : List Int) (hl : l.length = n) (k : Nat) (hk : hi + 1 ≤ k) (x y z : Int) (hx : x = (root : Int)) (hy : y = (hi : Int)) (hz : z = (first : Int)) :
  sd_.f k n l x y z = some (Sort.siftDown Sort.ltInt hi first root l.toArray).toList := by
 subst hx hy hz
 exact sift_is hi first n hn hf hi root l k (by omega) hr hl hk
theorem pop_is (first n : Nat) (hn : n ≤ 1000000000000) : ∀ (q : Nat) (l : List Int) (k : Nat), first + q ≤ n → l.length = n → n + 1 ≤ k →
  hs_.l2 (q + 1 + k) (first : Int) n l ((q : Int) - 1) = some (Sort.heapPop Sort.ltInt first q l.toArray).toList := by
 intro q
 induction q with
 | zero =>
  intro l k hq hl hk
  rw [show 0 + 1 + k = k + 1 from by omega]
  unfold hs_.l2 Sort.heapPop
  rw [if_neg (by simp)]
 | succ q ih =>
  intro l k hq hl hk
  rw [show q + 1 + 1 + k = (q + 1 + k) + 1 from by omega]
  unfold hs_.l2 Sort.heapPop
  have e0 : (((q + 1 : Nat) : Int) - 1) = (q : Int) := by omega
  have e1 : IntKind.wrap .i64 ((first : Int) + (q : Int)) = ((first + q : Nat) : Int) := n64s (by omega) (by omega)
  have e2 : IntKind.wrap .i64 ((q : Int) - (1 : Int)) = (q : Int) - 1 := w64 (by omega) (by omega)
  rw [e0, if_pos (by simp)]
  simp only [e1, e2, Int.toNat_natCast, if_pos (bs (show first + q < n by omega)), if_pos (bs (show first < n by omega)), ar_swp]
  rw [siftf_is q first n 0 hn (by omega) (by omega) _ (by simp [hl]) (q + 1 + k) (by omega) (0 : Int) _ _ rfl rfl rfl, Option.bind_some]
  exact ih _ k (by omega) (by rw [Array.length_toList, siftSize q first q 0 _ (by omega)]; simp [hl]) hk
theorem build_is (a b n : Nat) (hab : a ≤ b) (hb : b ≤ n) (hn : n ≤ 1000000000000) : ∀ (q : Nat) (l : List Int) (k : Nat), q ≤ n + 1 → l.length = n → n + 1 ≤ k →
  hs_.l1 (q + 1 + k) n (b : Int) (a : Int) l ((q : Int) - 1) = hs_.l2 k (a : Int) n (Sort.heapBuild Sort.ltInt (b - a) a q l.toArray).toList (((b - a : Nat) : Int) - 1) := by
 intro q
 have e0 : IntKind.wrap .i64 ((b : Int) - (a : Int)) = ((b - a : Nat) : Int) := n64s (by omega) (by omega)
 have e3 : IntKind.wrap .i64 (((b - a : Nat) : Int) - (1 : Int)) = ((b - a : Nat) : Int) - 1 := w64 (by omega) (by omega)
 induction q with
 | zero =>
  intro l k hq hl hk
  rw [show 0 + 1 + k = k + 1 from by omega]
  unfold hs_.l1 Sort.heapBuild
  rw [if_neg (by simp), lt_is (by rw [e0, e3])]
 | succ q ih =>
  intro l k hq hl hk
  rw [show q + 1 + 1 + k = (q + 1 + k) + 1 from by omega]
  unfold hs_.l1 Sort.heapBuild
  have e1 : (((q + 1 : Nat) : Int) - 1) = (q : Int) := by omega
  have e2 : IntKind.wrap .i64 ((q : Int) - (1 : Int)) = (q : Int) - 1 := w64 (by omega) (by omega)
  rw [e1, if_pos (by simp), siftf_is (b - a) a n q hn (by omega) (by omega) l hl (q + 1 + k) (by omega) _ _ _ rfl e0 rfl, Option.bind_some, e2]
  exact ih _ k (by omega) (by rw [Array.length_toList, siftSize (b - a) a (b - a) q _ (by omega)]; simp [hl]) hk
theorem buildSize (hi first : Nat) : ∀ (q : Nat) (d : Array Int), (Sort.heapBuild Sort.ltInt hi first q d).size = d.size := by
 intro q
 induction q with
 | zero => intro d; rfl
 | succ q ih => intro d; unfold Sort.heapBuild; rw [ih, siftSize hi first hi q _ (by omega)]
theorem heap_is (a b n : Nat) (hab : a ≤ b) (hb : b ≤ n) (hn : n ≤ 1000000000000) (l : List Int) (hl : l.length = n) (k : Nat) (hk : 3 * n + 10 ≤ k) :
  hs_.f k n l (a : Int) (b : Int) = some (Sort.heapSort Sort.ltInt l.toArray a b).toList := by
 unfold hs_.f Sort.heapSort
 have e0 : IntKind.wrap .i64 ((b : Int) - (a : Int)) = ((b - a : Nat) : Int) := n64s (by omega) (by omega)
 have e3 : IntKind.wrap .i64 (((b - a : Nat) : Int) - (1 : Int)) = ((b - a : Nat) : Int) - 1 := w64 (by omega) (by omega)
 have e4 : (((b - a : Nat) : Int) - 1).tdiv 2 = ((((b - a - 1) / 2 + 1 : Nat) : Int) - 1) := by
  rcases Nat.eq_zero_or_pos (b - a) with h | h
  ·rw [h]; rfl
  ·rw [show ((b - a : Nat) : Int) - 1 = ((b - a - 1 : Nat) : Int) from by omega, Int.tdiv_eq_ediv_of_nonneg (by omega)]; omega
 rw [lt_is (by rw [e0, e3, e4, w64 (by omega) (by omega)])]
 obtain ⟨k1, rfl⟩ : ∃ q, k = ((b - a - 1) / 2 + 1) + 1 + q := ⟨k - (((b - a - 1) / 2 + 1) + 1), by omega⟩
 rw [build_is a b n hab hb hn _ l k1 (by omega) hl (by omega)]
 obtain ⟨k2, rfl⟩ : ∃ q, k1 = (b - a) + 1 + q := ⟨k1 - ((b - a) + 1), by omega⟩
 exact pop_is a n hn (b - a) _ k2 (by omega) (by rw [Array.length_toList, buildSize]; simp [hl]) (by omega)
theorem rev_loop (n : Nat) (hn : n ≤ 1000000000000) : ∀ (m i j : Nat) (l : List Int) (k : Nat), j - i ≤ m → i ≤ n → j < n → l.length = n → m + 1 ≤ k →
  rr_.l1 k n l (i : Int) (j : Int) = some (Sort.reverseLoop i j l.toArray).toList := by
 intro m
 induction m with
 | zero =>
  intro i j l k hm hi hj hl hk
  obtain ⟨k, rfl⟩ : ∃ q, k = q + 1 := ⟨k - 1, by omega⟩
  unfold rr_.l1 Sort.reverseLoop
  rw [if_neg (by simp; omega), if_neg (by omega)]
 | succ m ih =>
  intro i j l k hm hi hj hl hk
  obtain ⟨k, rfl⟩ : ∃ q, k = q + 1 := ⟨k - 1, by omega⟩
  unfold rr_.l1 Sort.reverseLoop
  by_cases h : i < j
  ·have e1 : IntKind.wrap .i64 ((i : Int) + (1 : Int)) = ((i + 1 : Nat) : Int) := n64s (by omega) (by omega)
   have e2 : IntKind.wrap .i64 ((j : Int) - (1 : Int)) = ((j - 1 : Nat) : Int) := n64s (by omega) (by omega)
   rw [if_pos (by simp; omega), if_pos h]
   simp only [e1, e2, Int.toNat_natCast, if_pos (bs hj), if_pos (bs (show i < n by omega)), ar_swp]
   exact ih _ _ _ k (by omega) (by omega) (by omega) (by simp [hl]) (by omega)
  ·rw [if_neg (by simp; omega), if_neg h]
theorem rev_is (a b n : Nat) (hab : a < b) (hb : b ≤ n) (hn : n ≤ 1000000000000) (l : List Int) (hl : l.length = n) (k : Nat) (hk : n + 2 ≤ k) :
  rr_.f k n l (a : Int) (b : Int) = some (Sort.reverseRange l.toArray a b).toList := by
 unfold rr_.f Sort.reverseRange
 rw [n64s (n := b - 1) (by omega) (by omega)]
 exact rev_loop n hn n a (b - 1) l k (by omega) (by omega) (by omega) hl (by omega)
theorem pe_up (kl : List Int → Int → Int → Option (Int × List Int)) (a j n : Nat) (l : List Int) (ha : a < n) (hj : j < n) (hn : n ≤ 1000000000000) (K : Nat) : ∀ (m i k : Nat), j + 1 - i ≤ m → i ≤ n → m + 1 + K ≤ k → ∃ k', K ≤ k' ∧
  pe_.l3 k kl (j : Int) (a : Int) n l (i : Int) = pe_.j1 k' kl (a : Int) n l (j : Int) ((Sort.scanUp (fun x => !Sort.ltInt (l.toArray[a]!) x) l.toArray j i : Nat) : Int) := by
 intro m
 induction m with
 | zero =>
  intro i k hm hi hk
  obtain ⟨k, rfl⟩ : ∃ q, k = q + 1 := ⟨k - 1, by omega⟩
  unfold pe_.l3 Sort.scanUp
  refine ⟨k, by omega, ?_⟩
  rw [if_neg (by simp; omega), if_neg (by rw [Bool.and_eq_true]; exact fun q => by have := of_decide_eq_true q.1; omega)]
 | succ m ih =>
  intro i k hm hi hk
  obtain ⟨k, rfl⟩ : ∃ q, k = q + 1 := ⟨k - 1, by omega⟩
  unfold pe_.l3 Sort.scanUp
  by_cases h : i ≤ j
  ·have e1 : IntKind.wrap .i64 ((i : Int) + (1 : Int)) = ((i + 1 : Nat) : Int) := n64s (by omega) (by omega)
   rw [if_pos (by simp; omega)]
   simp only [e1, Int.toNat_natCast, if_pos (bs ha), if_pos (bs (show i < n by omega)), less_is, Option.bind_some, ar_get]
   by_cases h2 : (!Sort.ltInt (l.getD a 0) (l.getD i 0)) = true
   ·rw [if_pos h2, if_pos (by rw [h2, Bool.and_true]; exact decide_eq_true h)]
    have := ih (i + 1) k (by omega) (by omega) (by omega)
    simpa only [ar_get] using this
   ·rw [if_neg h2, if_neg (by rw [Bool.and_eq_true]; exact fun q => h2 q.2)]
    exact ⟨k, by omega, rfl⟩
  ·refine ⟨k, by omega, ?_⟩
   rw [if_neg (by simp; omega), if_neg (by rw [Bool.and_eq_true]; exact fun q => h (of_decide_eq_true q.1))]
theorem pe_down (kl : List Int → Int → Int → Option (Int × List Int)) (a i n : Nat) (l : List Int) (ha : a < n) (hi : 1 ≤ i) (hn : n ≤ 1000000000000) : ∀ (j k : Nat), j < n → j + 1 ≤ k →
  pe_.l2 k kl (i : Int) (a : Int) n l (j : Int) = pe_.j2 kl (i : Int) l n ((Sort.scanDown (fun x => Sort.ltInt (l.toArray[a]!) x) l.toArray i j : Nat) : Int) := by
 intro j
 induction j with
 | zero =>
  intro k hj hk
  obtain ⟨k, rfl⟩ : ∃ q, k = q + 1 := ⟨k - 1, by omega⟩
  unfold pe_.l2 Sort.scanDown
  rw [if_neg (by simp; omega)]
 | succ j ih =>
  intro k hj hk
  obtain ⟨k, rfl⟩ : ∃ q, k = q + 1 := ⟨k - 1, by omega⟩
  unfold pe_.l2 Sort.scanDown
  by_cases h : i ≤ j + 1
  ·have e1 : IntKind.wrap .i64 (((j + 1 : Nat) : Int) - (1 : Int)) = (j : Int) := n64s (by omega) (by omega)
   rw [if_pos (by simp; omega)]
   simp only [e1, Int.toNat_natCast, if_pos (bs ha), if_pos (bs hj), less_is, Option.bind_some, ar_get]
   by_cases h2 : Sort.ltInt (l.getD a 0) (l.getD (j + 1) 0) = true
   ·rw [if_pos h2, if_pos (by rw [h2, Bool.and_true]; exact decide_eq_true h)]
    have := ih k (by omega) (by omega)
    simpa only [ar_get] using this
   ·rw [if_neg h2, if_neg (by rw [Bool.and_eq_true]; exact fun q => h2 q.2)]
  ·rw [if_neg (by simp; omega), if_neg (by rw [Bool.and_eq_true]; exact fun q => h (of_decide_eq_true q.1))]
theorem pe_loop (a n : Nat) (ha : a < n) (hn : n ≤ 1000000000000) : ∀ (m i j : Nat) (l : List Int) (k : Nat), j + 1 - i ≤ m → 1 ≤ i → i ≤ n → j < n → l.length = n → (m + 1) * (2 * n + 5) ≤ k →
  pe_.l1 k (a : Int) n l (i : Int) (j : Int) = some (((Sort.partEqLoop Sort.ltInt a i j l.toArray).1 : Int), (Sort.partEqLoop Sort.ltInt a i j l.toArray).2.toList) := by
 intro m
 induction m with
 | zero =>
  intro i j l k hm h1 hi hj hl hk
  obtain ⟨k, rfl⟩ : ∃ q, k = q + 1 := ⟨k - 1, by omega⟩
  rw [Sort.partEqLoop_eq]
  unfold pe_.l1
  obtain ⟨k', hk', e⟩ := pe_up (pe_.l1 k (a : Int) n) a j n l ha hj hn (n + 1) (j + 1 - i) i k (Nat.le_refl _) hi (by omega)
  rw [e]
  unfold pe_.j1
  rw [pe_down _ a _ n l ha (Nat.le_trans h1 (Sort.scanUp_ge _ _ _ _)) hn j k' hj (by omega)]
  unfold pe_.j2
  have q1 := Sort.scanUp_ge (fun x => !Sort.ltInt (l.toArray[a]!) x) l.toArray j i
  have q2 := Sort.scanDown_le (fun x => Sort.ltInt (l.toArray[a]!) x) l.toArray (Sort.scanUp (fun x => !Sort.ltInt (l.toArray[a]!) x) l.toArray j i) j
  generalize Sort.scanUp (fun x => !Sort.ltInt (l.toArray[a]!) x) l.toArray j i = i2 at q1 q2 ⊢
  generalize Sort.scanDown (fun x => Sort.ltInt (l.toArray[a]!) x) l.toArray i2 j = j2 at q2 ⊢
  rw [if_pos (by simp; omega), if_pos (by omega)]
 | succ m ih =>
  intro i j l k hm h1 hi hj hl hk
  have hk2 : (m + 1) * (2 * n + 5) + (2 * n + 5) ≤ k := by rw [Nat.succ_mul] at hk; exact hk
  obtain ⟨k, rfl⟩ : ∃ q, k = q + 1 := ⟨k - 1, by omega⟩
  rw [Sort.partEqLoop_eq]
  unfold pe_.l1
  obtain ⟨k', hk', e⟩ := pe_up (pe_.l1 k (a : Int) n) a j n l ha hj hn (n + 1) (j + 1 - i) i k (Nat.le_refl _) hi (by omega)
  rw [e]
  unfold pe_.j1
  rw [pe_down _ a _ n l ha (Nat.le_trans h1 (Sort.scanUp_ge _ _ _ _)) hn j k' hj (by omega)]
  unfold pe_.j2
  have q1 := Sort.scanUp_ge (fun x => !Sort.ltInt (l.toArray[a]!) x) l.toArray j i
  have q2 := Sort.scanDown_le (fun x => Sort.ltInt (l.toArray[a]!) x) l.toArray (Sort.scanUp (fun x => !Sort.ltInt (l.toArray[a]!) x) l.toArray j i) j
  generalize Sort.scanUp (fun x => !Sort.ltInt (l.toArray[a]!) x) l.toArray j i = i2 at q1 q2 ⊢
  generalize Sort.scanDown (fun x => Sort.ltInt (l.toArray[a]!) x) l.toArray i2 j = j2 at q2 ⊢
  by_cases h : i2 > j2
  ·rw [if_pos (by simp; omega), if_pos h]
  ·have e1 : IntKind.wrap .i64 ((i2 : Int) + (1 : Int)) = ((i2 + 1 : Nat) : Int) := n64s (by omega) (by omega)
   have e2 : IntKind.wrap .i64 ((j2 : Int) - (1 : Int)) = ((j2 - 1 : Nat) : Int) := n64s (by omega) (by omega)
   rw [if_neg (by simp; omega), if_neg h]
   simp only [e1, e2, Int.toNat_natCast, if_pos (bs (show i2 < n by omega)), if_pos (bs (show j2 < n by omega)), ar_swp]
   exact ih (i2 + 1) (j2 - 1) _ k (by omega) (by omega) (by omega) (by omega) (by simp [hl]) (by omega)
theorem peq_is (a b p n : Nat) (hap : a ≤ p) (hpb : p < b) (hb : b ≤ n) (hn : n ≤ 1000000000000) (l : List Int) (hl : l.length = n) (k : Nat) (hk : (n + 1) * (2 * n + 5) ≤ k) :
  pe_.f k n l (a : Int) (b : Int) (p : Int) = some (((Sort.partitionEqual Sort.ltInt l.toArray a b p).1 : Int), (Sort.partitionEqual Sort.ltInt l.toArray a b p).2.toList) := by
 unfold pe_.f Sort.partitionEqual
 have e1 : IntKind.wrap .i64 ((a : Int) + (1 : Int)) = ((a + 1 : Nat) : Int) := n64s (by omega) (by omega)
 have e2 : IntKind.wrap .i64 ((b : Int) - (1 : Int)) = ((b - 1 : Nat) : Int) := n64s (by omega) (by omega)
 simp only [e1, e2, Int.toNat_natCast, if_pos (bs (show a < n by omega)), if_pos (bs (show p < n by omega)), ar_swp]
 exact pe_loop a n (by omega) hn n (a + 1) (b - 1) _ k (by omega) (by omega) (by omega) (by omega) (by simp [hl]) hk
theorem pt_up (kl : List Int → Int → Int → Option (Int × Bool × List Int)) (a j n : Nat) (l : List Int) (ha : a < n) (hj : j < n) (hn : n ≤ 1000000000000) (K : Nat) : ∀ (m i k : Nat), j + 1 - i ≤ m → i ≤ n → m + 1 + K ≤ k → ∃ k', K ≤ k' ∧
  pt_.l3 k kl (j : Int) n (a : Int) l (i : Int) = pt_.j3 k' kl n (a : Int) l (j : Int) ((Sort.scanUp (fun x => Sort.ltInt x (l.toArray[a]!)) l.toArray j i : Nat) : Int) := by
 intro m
 induction m with
 | zero =>
  intro i k hm hi hk
  obtain ⟨k, rfl⟩ : ∃ q, k = q + 1 := ⟨k - 1, by omega⟩
  unfold pt_.l3 Sort.scanUp
  refine ⟨k, by omega, ?_⟩
  rw [if_neg (by simp; omega), if_neg (by rw [Bool.and_eq_true]; exact fun q => by have := of_decide_eq_true q.1; omega)]
 | succ m ih =>
  intro i k hm hi hk
  obtain ⟨k, rfl⟩ : ∃ q, k = q + 1 := ⟨k - 1, by omega⟩
  unfold pt_.l3 Sort.scanUp
  by_cases h : i ≤ j
  ·have e1 : IntKind.wrap .i64 ((i : Int) + (1 : Int)) = ((i + 1 : Nat) : Int) := n64s (by omega) (by omega)
   rw [if_pos (by simp; omega)]
   simp only [e1, Int.toNat_natCast, if_pos (bs ha), if_pos (bs (show i < n by omega)), less_is, Option.bind_some, ar_get]
   by_cases h2 : Sort.ltInt (l.getD i 0) (l.getD a 0) = true
   ·rw [if_pos h2, if_pos (by rw [h2, Bool.and_true]; exact decide_eq_true h)]
    have := ih (i + 1) k (by omega) (by omega) (by omega)
    simpa only [ar_get] using this
   ·rw [if_neg h2, if_neg (by rw [Bool.and_eq_true]; exact fun q => h2 q.2)]
    exact ⟨k, by omega, rfl⟩
  ·refine ⟨k, by omega, ?_⟩
   rw [if_neg (by simp; omega), if_neg (by rw [Bool.and_eq_true]; exact fun q => h (of_decide_eq_true q.1))]
theorem pt_down (kl : List Int → Int → Int → Option (Int × Bool × List Int)) (a i n : Nat) (l : List Int) (ha : a < n) (hi : 1 ≤ i) (hn : n ≤ 1000000000000) : ∀ (j k : Nat), j < n → j + 1 ≤ k →
  pt_.l2 k kl (i : Int) n (a : Int) l (j : Int) = pt_.j4 kl (i : Int) (a : Int) n l ((Sort.scanDown (fun x => !Sort.ltInt x (l.toArray[a]!)) l.toArray i j : Nat) : Int) := by
 intro j
 induction j with
 | zero =>
  intro k hj hk
  obtain ⟨k, rfl⟩ : ∃ q, k = q + 1 := ⟨k - 1, by omega⟩
  unfold pt_.l2 Sort.scanDown
  rw [if_neg (by simp; omega)]
 | succ j ih =>
  intro k hj hk
  obtain ⟨k, rfl⟩ : ∃ q, k = q + 1 := ⟨k - 1, by omega⟩
  unfold pt_.l2 Sort.scanDown
  by_cases h : i ≤ j + 1
  ·have e1 : IntKind.wrap .i64 (((j + 1 : Nat) : Int) - (1 : Int)) = (j : Int) := n64s (by omega) (by omega)
   rw [if_pos (by simp; omega)]
   simp only [e1, Int.toNat_natCast, if_pos (bs ha), if_pos (bs hj), less_is, Option.bind_some, ar_get]
   by_cases h2 : (!Sort.ltInt (l.getD (j + 1) 0) (l.getD a 0)) = true
   ·rw [if_pos h2, if_pos (by rw [h2, Bool.and_true]; exact decide_eq_true h)]
    have := ih k (by omega) (by omega)
    simpa only [ar_get] using this
   ·rw [if_neg h2, if_neg (by rw [Bool.and_eq_true]; exact fun q => h2 q.2)]
  ·rw [if_neg (by simp; omega), if_neg (by rw [Bool.and_eq_true]; exact fun q => h (of_decide_eq_true q.1))]
def ptEnd (a : Nat) (r : Nat × Array Int) : Option (Int × Bool × List Int) := some ((r.1 : Int), false, (Sort.swp r.2 r.1 a).toList)
theorem pt_loop (a n : Nat) (ha : a < n) (hn : n ≤ 1000000000000) : ∀ (m i j : Nat) (l : List Int) (k : Nat), j + 1 - i ≤ m → 1 ≤ i → i ≤ n → j < n → l.length = n → (m + 1) * (2 * n + 5) ≤ k →
  pt_.l1 k n (a : Int) l (i : Int) (j : Int) = ptEnd a (Sort.partLoop Sort.ltInt a i j l.toArray) := by
 intro m
 induction m with
 | zero =>
  intro i j l k hm h1 hi hj hl hk
  obtain ⟨k, rfl⟩ : ∃ q, k = q + 1 := ⟨k - 1, by omega⟩
  rw [Sort.partLoop_eq]
  unfold pt_.l1
  obtain ⟨k', hk', e⟩ := pt_up (pt_.l1 k n (a : Int)) a j n l ha hj hn (n + 1) (j + 1 - i) i k (Nat.le_refl _) hi (by omega)
  rw [e]
  unfold pt_.j3
  rw [pt_down _ a _ n l ha (Nat.le_trans h1 (Sort.scanUp_ge _ _ _ _)) hn j k' hj (by omega)]
  unfold pt_.j4
  have q1 := Sort.scanUp_ge (fun x => Sort.ltInt x (l.toArray[a]!)) l.toArray j i
  have q2 := Sort.scanDown_le (fun x => !Sort.ltInt x (l.toArray[a]!)) l.toArray (Sort.scanUp (fun x => Sort.ltInt x (l.toArray[a]!)) l.toArray j i) j
  generalize Sort.scanUp (fun x => Sort.ltInt x (l.toArray[a]!)) l.toArray j i = i2 at q1 q2 ⊢
  generalize Sort.scanDown (fun x => !Sort.ltInt x (l.toArray[a]!)) l.toArray i2 j = j2 at q2 ⊢
  rw [if_pos (by simp; omega), if_pos (c := i2 > j2) (by omega)]
  simp only [Int.toNat_natCast, if_pos (bs ha), if_pos (bs (show j2 < n by omega)), ptEnd, ar_swp]
 | succ m ih =>
  intro i j l k hm h1 hi hj hl hk
  have hk2 : (m + 1) * (2 * n + 5) + (2 * n + 5) ≤ k := by rw [Nat.succ_mul] at hk; exact hk
  obtain ⟨k, rfl⟩ : ∃ q, k = q + 1 := ⟨k - 1, by omega⟩
  rw [Sort.partLoop_eq]
  unfold pt_.l1
  obtain ⟨k', hk', e⟩ := pt_up (pt_.l1 k n (a : Int)) a j n l ha hj hn (n + 1) (j + 1 - i) i k (Nat.le_refl _) hi (by omega)
  rw [e]
  unfold pt_.j3
  rw [pt_down _ a _ n l ha (Nat.le_trans h1 (Sort.scanUp_ge _ _ _ _)) hn j k' hj (by omega)]
  unfold pt_.j4
  have q1 := Sort.scanUp_ge (fun x => Sort.ltInt x (l.toArray[a]!)) l.toArray j i
  have q2 := Sort.scanDown_le (fun x => !Sort.ltInt x (l.toArray[a]!)) l.toArray (Sort.scanUp (fun x => Sort.ltInt x (l.toArray[a]!)) l.toArray j i) j
  generalize Sort.scanUp (fun x => Sort.ltInt x (l.toArray[a]!)) l.toArray j i = i2 at q1 q2 ⊢
  generalize Sort.scanDown (fun x => !Sort.ltInt x (l.toArray[a]!)) l.toArray i2 j = j2 at q2 ⊢
  by_cases h : i2 > j2
  ·rw [if_pos (by simp; omega), if_pos h]
   simp only [Int.toNat_natCast, if_pos (bs ha), if_pos (bs (show j2 < n by omega)), ptEnd, ar_swp]
  ·have e1 : IntKind.wrap .i64 ((i2 : Int) + (1 : Int)) = ((i2 + 1 : Nat) : Int) := n64s (by omega) (by omega)
   have e2 : IntKind.wrap .i64 ((j2 : Int) - (1 : Int)) = ((j2 - 1 : Nat) : Int) := n64s (by omega) (by omega)
   rw [if_neg (by simp; omega), if_neg h]
   simp only [e1, e2, Int.toNat_natCast, if_pos (bs (show i2 < n by omega)), if_pos (bs (show j2 < n by omega)), ar_swp]
   exact ih (i2 + 1) (j2 - 1) _ k (by omega) (by omega) (by omega) (by omega) (by simp [hl]) (by omega)
def ptL (l : List Int) (a p : Nat) : List Int := (l.set a (l.getD p 0)).set p (l.getD a 0)
theorem pt_up0 (a p b n : Nat) (l : List Int) (ha : a < n) (hb1 : 1 ≤ b) (hb : b ≤ n) (hl : l.length = n) (hn : n ≤ 1000000000000) (K : Nat) : ∀ (m i k : Nat), b - i ≤ m → i ≤ n → m + 1 + K ≤ k → ∃ k', K ≤ k' ∧
  pt_.l5 k (b : Int) n (a : Int) l (p : Int) (i : Int) = pt_.j1 k' n (a : Int) l (p : Int) (b : Int) ((Sort.scanUp (fun x => Sort.ltInt x ((ptL l a p).toArray[a]!)) (ptL l a p).toArray (b - 1) i : Nat) : Int) := by
 have eb : IntKind.wrap .i64 ((b : Int) - (1 : Int)) = ((b - 1 : Nat) : Int) := n64s (by omega) (by omega)
 intro m
 induction m with
 | zero =>
  intro i k hm hi hk
  obtain ⟨k, rfl⟩ : ∃ q, k = q + 1 := ⟨k - 1, by omega⟩
  unfold pt_.l5 Sort.scanUp
  refine ⟨k, by omega, ?_⟩
  rw [eb, if_neg (by simp; omega), if_neg (by rw [Bool.and_eq_true]; exact fun q => by have := of_decide_eq_true q.1; omega)]
 | succ m ih =>
  intro i k hm hi hk
  obtain ⟨k, rfl⟩ : ∃ q, k = q + 1 := ⟨k - 1, by omega⟩
  unfold pt_.l5 Sort.scanUp
  by_cases h : i ≤ b - 1
  ·have e1 : IntKind.wrap .i64 ((i : Int) + (1 : Int)) = ((i + 1 : Nat) : Int) := n64s (by omega) (by omega)
   rw [eb, if_pos (by simp; omega)]
   simp only [e1, Int.toNat_natCast, if_pos (bs ha), if_pos (bs (show i < n by omega)), less_is, Option.bind_some, ar_get]
   by_cases h2 : Sort.ltInt ((ptL l a p).getD i 0) ((ptL l a p).getD a 0) = true
   ·rw [if_pos (show Sort.ltInt (((l.set a (l.getD p 0)).set p (l.getD a 0)).getD i 0) (((l.set a (l.getD p 0)).set p (l.getD a 0)).getD a 0) = true from h2), if_pos (by rw [h2, Bool.and_true]; exact decide_eq_true h)]
    have := ih (i + 1) k (by omega) (by omega) (by omega)
    simpa only [ar_get] using this
   ·rw [if_neg (show ¬ Sort.ltInt (((l.set a (l.getD p 0)).set p (l.getD a 0)).getD i 0) (((l.set a (l.getD p 0)).set p (l.getD a 0)).getD a 0) = true from h2), if_neg (by rw [Bool.and_eq_true]; exact fun q => h2 q.2)]
    exact ⟨k, by omega, rfl⟩
  ·refine ⟨k, by omega, ?_⟩
   rw [eb, if_neg (by simp; omega), if_neg (by rw [Bool.and_eq_true]; exact fun q => h (of_decide_eq_true q.1))]
theorem pt_down0 (a p i n : Nat) (l : List Int) (ha : a < n) (hi : 1 ≤ i) (hl : l.length = n) (hn : n ≤ 1000000000000) (K : Nat) : ∀ (j k : Nat), j < n → j + 1 + K ≤ k → ∃ k', K ≤ k' ∧
  pt_.l4 k (i : Int) n (a : Int) l (p : Int) (j : Int) = pt_.j2 k' (i : Int) (a : Int) n l (p : Int) ((Sort.scanDown (fun x => !Sort.ltInt x ((ptL l a p).toArray[a]!)) (ptL l a p).toArray i j : Nat) : Int) := by
 intro j
 induction j with
 | zero =>
  intro k hj hk
  obtain ⟨k, rfl⟩ : ∃ q, k = q + 1 := ⟨k - 1, by omega⟩
  unfold pt_.l4 Sort.scanDown
  refine ⟨k, by omega, ?_⟩
  rw [if_neg (by simp; omega)]
 | succ j ih =>
  intro k hj hk
  obtain ⟨k, rfl⟩ : ∃ q, k = q + 1 := ⟨k - 1, by omega⟩
  unfold pt_.l4 Sort.scanDown
  by_cases h : i ≤ j + 1
  ·have e1 : IntKind.wrap .i64 (((j + 1 : Nat) : Int) - (1 : Int)) = (j : Int) := n64s (by omega) (by omega)
   rw [if_pos (by simp; omega)]
   simp only [e1, Int.toNat_natCast, if_pos (bs ha), if_pos (bs hj), less_is, Option.bind_some, ar_get]
   by_cases h2 : (!Sort.ltInt ((ptL l a p).getD (j + 1) 0) ((ptL l a p).getD a 0)) = true
   ·rw [if_pos (show (!Sort.ltInt (((l.set a (l.getD p 0)).set p (l.getD a 0)).getD (j + 1) 0) (((l.set a (l.getD p 0)).set p (l.getD a 0)).getD a 0)) = true from h2), if_pos (by rw [h2, Bool.and_true]; exact decide_eq_true h)]
    have := ih k (by omega) (by omega)
    simpa only [ar_get] using this
   ·rw [if_neg (show ¬ (!Sort.ltInt (((l.set a (l.getD p 0)).set p (l.getD a 0)).getD (j + 1) 0) (((l.set a (l.getD p 0)).set p (l.getD a 0)).getD a 0)) = true from h2), if_neg (by rw [Bool.and_eq_true]; exact fun q => h2 q.2)]
    exact ⟨k, by omega, rfl⟩
  ·refine ⟨k, by omega, ?_⟩
   rw [if_neg (by simp; omega), if_neg (by rw [Bool.and_eq_true]; exact fun q => h (of_decide_eq_true q.1))]
theorem part_is (a b p n : Nat) (hap : a ≤ p) (hpb : p < b) (hb : b ≤ n) (hn : n ≤ 1000000000000) (l : List Int) (hl : l.length = n) (k : Nat) (hk : (n + 3) * (2 * n + 5) ≤ k) :
  pt_.f k n l (a : Int) (b : Int) (p : Int) = some (((Sort.partition Sort.ltInt l.toArray a b p).1 : Int), (Sort.partition Sort.ltInt l.toArray a b p).2.1, (Sort.partition Sort.ltInt l.toArray a b p).2.2.toList) := by
 have hk1 : (n + 1) * (2 * n + 5) + (2 * n + 5) + (2 * n + 5) ≤ k := by
  have : (n + 3) * (2 * n + 5) = (n + 1) * (2 * n + 5) + (2 * n + 5) + (2 * n + 5) := by rw [show n + 3 = n + 1 + 1 + 1 from rfl, Nat.succ_mul, Nat.succ_mul]
  omega
 unfold pt_.f Sort.partition
 have e1 : IntKind.wrap .i64 ((a : Int) + (1 : Int)) = ((a + 1 : Nat) : Int) := n64s (by omega) (by omega)
 have e2 : IntKind.wrap .i64 ((b : Int) - (1 : Int)) = ((b - 1 : Nat) : Int) := n64s (by omega) (by omega)
 simp only [e1, if_pos (bs (show a < n by omega)), if_pos (bs (show p < n by omega)), ar_swp]
 obtain ⟨k1, hk2, q1⟩ := pt_up0 a p b n l (by omega) (by omega) hb hl hn ((n + 1) * (2 * n + 5) + (2 * n + 5)) (b - (a + 1)) (a + 1) k (Nat.le_refl _) (by omega) (by omega)
 rw [q1]
 unfold pt_.j1
 rw [e2]
 have g1 := Sort.scanUp_ge (fun x => Sort.ltInt x ((ptL l a p).toArray[a]!)) (ptL l a p).toArray (b - 1) (a + 1)
 obtain ⟨k2, hk3, q2⟩ := pt_down0 a p (Sort.scanUp (fun x => Sort.ltInt x ((ptL l a p).toArray[a]!)) (ptL l a p).toArray (b - 1) (a + 1)) n l (by omega) (by omega) hl hn ((n + 1) * (2 * n + 5)) (b - 1) k1 (by omega) (by omega)
 rw [q2]
 unfold pt_.j2
 have g2 := Sort.scanDown_le (fun x => !Sort.ltInt x ((ptL l a p).toArray[a]!)) (ptL l a p).toArray (Sort.scanUp (fun x => Sort.ltInt x ((ptL l a p).toArray[a]!)) (ptL l a p).toArray (b - 1) (a + 1)) (b - 1)
 have eL : (l.set a (l.getD p 0)).set p (l.getD a 0) = ptL l a p := rfl
 simp only [eL, ar_get]
 simp only [ar_get] at g1 g2
 have lL : (ptL l a p).length = n := by unfold ptL; simp [hl]
 generalize Sort.scanUp (fun x => Sort.ltInt x ((ptL l a p).getD a 0)) (ptL l a p).toArray (b - 1) (a + 1) = i2 at g1 g2 ⊢
 generalize Sort.scanDown (fun x => !Sort.ltInt x ((ptL l a p).getD a 0)) (ptL l a p).toArray i2 (b - 1) = j2 at g2 ⊢
 by_cases h : i2 > j2
 ·rw [if_pos (show decide ((i2 : Int) > (j2 : Int)) = true by simp; omega), if_pos h]
  simp only [Int.toNat_natCast, if_pos (bs (show a < n by omega)), if_pos (bs (show j2 < n by omega)), ar_swp]
  rfl
 ·have e3 : IntKind.wrap .i64 ((i2 : Int) + (1 : Int)) = ((i2 + 1 : Nat) : Int) := n64s (by omega) (by omega)
  have e4 : IntKind.wrap .i64 ((j2 : Int) - (1 : Int)) = ((j2 - 1 : Nat) : Int) := n64s (by omega) (by omega)
  rw [if_neg (show ¬ decide ((i2 : Int) > (j2 : Int)) = true by simp; omega), if_neg h]
  simp only [e3, e4, Int.toNat_natCast, if_pos (bs (show i2 < n by omega)), if_pos (bs (show j2 < n by omega)), ar_swp]
  rw [pt_loop a n (by omega) hn n (i2 + 1) (j2 - 1) _ k2 (by omega) (by omega) (by omega) (by omega) (by simp [hl]) hk3]
  rfl
theorem pi_up (kl : List Int → Int → Int → Option (Bool × List Int)) (b n : Nat) (x3 x9 : Int) (hb : b ≤ n) (hn : n ≤ 1000000000000) : ∀ (m j : Nat) (l : List Int) (k : Nat), b - j ≤ m → 1 ≤ j → l.length = n → j ≤ n + 1 → m + 1 ≤ k →
  pi_.l2 k kl (b : Int) n x3 x9 l (j : Int) = pi_.j1 kl x3 (Sort.shiftUp Sort.ltInt b j l.toArray).toList x9 := by
 intro m
 induction m with
 | zero =>
  intro j l k hm hj hl hj2 hk
  obtain ⟨k, rfl⟩ : ∃ q, k = q + 1 := ⟨k - 1, by omega⟩
  unfold pi_.l2 Sort.shiftUp
  rw [if_neg (by simp; omega), if_neg (by omega)]
 | succ m ih =>
  intro j l k hm hj hl hj2 hk
  obtain ⟨k, rfl⟩ : ∃ q, k = q + 1 := ⟨k - 1, by omega⟩
  unfold pi_.l2 Sort.shiftUp
  by_cases h : j < b
  ·have e1 : IntKind.wrap .i64 ((j : Int) + (1 : Int)) = ((j + 1 : Nat) : Int) := n64s (by omega) (by omega)
   have e2 : IntKind.wrap .i64 ((j : Int) - (1 : Int)) = ((j - 1 : Nat) : Int) := n64s (by omega) (by omega)
   rw [if_pos (by simp; omega), if_pos h]
   simp only [e1, e2, Int.toNat_natCast, if_pos (bs (show j < n by omega)), if_pos (bs (show j - 1 < n by omega)), less_is, Option.bind_some, ar_get, ar_swp]
   by_cases h2 : (!Sort.ltInt (l.getD j 0) (l.getD (j - 1) 0)) = true
   ·rw [if_pos h2, if_pos h2]
   ·rw [if_neg h2, if_neg h2]
    exact ih (j + 1) _ k (by omega) (by omega) (by simp [hl]) (by omega) (by omega)
  ·rw [if_neg (by simp; omega), if_neg h]
theorem pi_down (kl : List Int → Int → Int → Option (Bool × List Int)) (n : Nat) (x2 x3 x9 : Int) (hn : n ≤ 1000000000000) (K : Nat) : ∀ (j : Nat) (l : List Int) (k : Nat), j < n → l.length = n → j + 1 + K ≤ k → ∃ k', K ≤ k' ∧
  pi_.l3 k kl n x2 x9 x3 l (j : Int) = pi_.j3 k' kl x2 x9 n x3 (Sort.shiftDown Sort.ltInt j l.toArray).toList := by
 intro j
 induction j with
 | zero =>
  intro l k hj hl hk
  obtain ⟨k, rfl⟩ : ∃ q, k = q + 1 := ⟨k - 1, by omega⟩
  unfold pi_.l3 Sort.shiftDown
  refine ⟨k, by omega, ?_⟩
  rw [if_neg (by simp)]
 | succ j ih =>
  intro l k hj hl hk
  obtain ⟨k, rfl⟩ : ∃ q, k = q + 1 := ⟨k - 1, by omega⟩
  unfold pi_.l3 Sort.shiftDown
  have e1 : IntKind.wrap .i64 (((j + 1 : Nat) : Int) - (1 : Int)) = (j : Int) := n64s (by omega) (by omega)
  rw [if_pos (by simp; omega)]
  simp only [e1, Int.toNat_natCast, if_pos (bs hj), if_pos (bs (show j < n by omega)), less_is, Option.bind_some, ar_get, ar_swp]
  by_cases h2 : (!Sort.ltInt (l.getD (j + 1) 0) (l.getD j 0)) = true
  ·rw [if_pos h2, if_pos h2]
   exact ⟨k, by omega, rfl⟩
  ·rw [if_neg h2, if_neg h2]
   exact ih _ k (by omega) (by simp [hl]) (by omega)
theorem pi_scan (kl : List Int → Int → Int → Option (Bool × List Int)) (b n : Nat) (x1 x3 : Int) (l : List Int) (hb : b ≤ n) (hn : n ≤ 1000000000000) (K : Nat) : ∀ (m i k : Nat), b - i ≤ m → 1 ≤ i → i ≤ n → m + 1 + K ≤ k → ∃ k', K ≤ k' ∧
  pi_.l4 k kl (b : Int) n l x1 x3 (i : Int) = pi_.j2 k' kl (b : Int) l x1 n x3 ((Sort.scanSorted Sort.ltInt l.toArray b i : Nat) : Int) := by
 intro m
 induction m with
 | zero =>
  intro i k hm h1 hi hk
  obtain ⟨k, rfl⟩ : ∃ q, k = q + 1 := ⟨k - 1, by omega⟩
  unfold pi_.l4 Sort.scanSorted
  refine ⟨k, by omega, ?_⟩
  rw [if_neg (by simp; omega), if_neg (by rw [Bool.and_eq_true]; exact fun q => by have := of_decide_eq_true q.1; omega)]
 | succ m ih =>
  intro i k hm h1 hi hk
  obtain ⟨k, rfl⟩ : ∃ q, k = q + 1 := ⟨k - 1, by omega⟩
  unfold pi_.l4 Sort.scanSorted
  by_cases h : i < b
  ·have e1 : IntKind.wrap .i64 ((i : Int) + (1 : Int)) = ((i + 1 : Nat) : Int) := n64s (by omega) (by omega)
   have e2 : IntKind.wrap .i64 ((i : Int) - (1 : Int)) = ((i - 1 : Nat) : Int) := n64s (by omega) (by omega)
   rw [if_pos (by simp; omega)]
   simp only [e1, e2, Int.toNat_natCast, if_pos (bs (show i < n by omega)), if_pos (bs (show i - 1 < n by omega)), less_is, Option.bind_some, ar_get]
   by_cases h2 : (!Sort.ltInt (l.getD i 0) (l.getD (i - 1) 0)) = true
   ·rw [if_pos h2, if_pos (by rw [h2, Bool.and_true]; exact decide_eq_true h)]
    exact ih (i + 1) k (by omega) (by omega) (by omega) (by omega)
   ·rw [if_neg h2, if_neg (by rw [Bool.and_eq_true]; exact fun q => h2 q.2)]
    exact ⟨k, by omega, rfl⟩
  ·refine ⟨k, by omega, ?_⟩
   rw [if_neg (by simp; omega), if_neg (by rw [Bool.and_eq_true]; exact fun q => h (of_decide_eq_true q.1))]
theorem scan_le (d : Array Int) (b : Nat) : ∀ (m i : Nat), b - i ≤ m → i ≤ b → i ≤ Sort.scanSorted Sort.ltInt d b i ∧ Sort.scanSorted Sort.ltInt d b i ≤ b := by
 intro m
 induction m with
 | zero =>
  intro i hm hi
  unfold Sort.scanSorted
  rw [if_neg (by rw [Bool.and_eq_true]; exact fun q => by have := of_decide_eq_true q.1; omega)]
  omega
 | succ m ih =>
  intro i hm hi
  unfold Sort.scanSorted
  split
  ·rename_i h
   rw [Bool.and_eq_true] at h
   have := of_decide_eq_true h.1
   have := ih (i + 1) (by omega) (by omega)
   omega
  ·omega
theorem downSize : ∀ (j : Nat) (d : Array Int), (Sort.shiftDown Sort.ltInt j d).size = d.size := by
 intro j
 induction j with
 | zero => intro d; rfl
 | succ j ih =>
  intro d
  unfold Sort.shiftDown
  split
  ·rfl
  ·rw [ih]; simp [Sort.swp]
theorem upSize (b : Nat) : ∀ (m j : Nat) (d : Array Int), b - j ≤ m → (Sort.shiftUp Sort.ltInt b j d).size = d.size := by
 intro m
 induction m with
 | zero => intro j d h; unfold Sort.shiftUp; rw [if_neg (by omega)]
 | succ m ih =>
  intro j d h
  unfold Sort.shiftUp
  split
  ·split
   ·rfl
   ·rw [ih _ _ (by omega)]; simp [Sort.swp]
  ·rfl
theorem pi_loop (a b n : Nat) (hab : a < b) (hb : b ≤ n) (hn : n ≤ 1000000000000) : ∀ (s i : Nat) (l : List Int) (k : Nat), s ≤ 5 → a + 1 ≤ i → i ≤ b → l.length = n → (s + 1) * (3 * n + 10) ≤ k →
  pi_.l1 k (b : Int) n (a : Int) l (i : Int) (((5 - s : Nat)) : Int) = some ((Sort.partialIns Sort.ltInt a b s i l.toArray).2, (Sort.partialIns Sort.ltInt a b s i l.toArray).1.toList) := by
 intro s
 induction s with
 | zero =>
  intro i l k hs h1 hi hl hk
  obtain ⟨k, rfl⟩ : ∃ q, k = q + 1 := ⟨k - 1, by omega⟩
  unfold pi_.l1 Sort.partialIns
  rw [if_neg (by simp)]
 | succ s ih =>
  intro i l k hs h1 hi hl hk
  have hk2 : (s + 1) * (3 * n + 10) + (3 * n + 10) ≤ k := by rw [Nat.succ_mul] at hk; exact hk
  obtain ⟨k, rfl⟩ : ∃ q, k = q + 1 := ⟨k - 1, by omega⟩
  unfold pi_.l1 Sort.partialIns
  rw [if_pos (by simp; omega)]
  obtain ⟨k1, hk3, q1⟩ := pi_scan (pi_.l1 k (b : Int) n (a : Int)) b n (a : Int) (((5 - (s + 1) : Nat)) : Int) l hb hn (2 * n + 5) (b - i) i k (Nat.le_refl _) (by omega) (by omega) (by omega)
  rw [q1]
  obtain ⟨g1, g2⟩ := scan_le l.toArray b (b - i) i (Nat.le_refl _) hi
  generalize Sort.scanSorted Sort.ltInt l.toArray b i = i2 at g1 g2 ⊢
  unfold pi_.j2
  dsimp only
  by_cases hib : i2 = b
  ·rw [if_pos (by simp [hib]), if_pos hib]
  ·have e1 : IntKind.wrap .i64 ((b : Int) - (a : Int)) = ((b - a : Nat) : Int) := n64s (by omega) (by omega)
   have e2 : IntKind.wrap .i64 ((i2 : Int) - (1 : Int)) = ((i2 - 1 : Nat) : Int) := n64s (by omega) (by omega)
   have e3 : IntKind.wrap .i64 ((i2 : Int) - (a : Int)) = ((i2 - a : Nat) : Int) := n64s (by omega) (by omega)
   have e4 : IntKind.wrap .i64 ((b : Int) - (i2 : Int)) = ((b - i2 : Nat) : Int) := n64s (by omega) (by omega)
   have e5 : IntKind.wrap .i64 ((i2 : Int) + (1 : Int)) = ((i2 + 1 : Nat) : Int) := n64s (by omega) (by omega)
   have e6 : IntKind.wrap .i64 ((((5 - (s + 1) : Nat)) : Int) + (1 : Int)) = ((5 - s : Nat) : Int) := n64s (by omega) (by omega)
   rw [if_neg (by simp; omega), if_neg hib, e1]
   by_cases h50 : b - a < 50
   ·rw [if_pos (by simp; omega), if_pos h50]
   ·rw [if_neg (by simp; omega), if_neg h50]
    simp only [e2, e3, Int.toNat_natCast, if_pos (bs (show i2 < n by omega)), if_pos (bs (show i2 - 1 < n by omega)), ar_swp]
    have last : ∀ (L : List Int) (q : Nat), L.length = n → n + 2 ≤ q → pi_.j3 q (pi_.l1 k (b : Int) n (a : Int)) (b : Int) (i2 : Int) n (((5 - (s + 1) : Nat)) : Int) L =
      some ((Sort.partialIns Sort.ltInt a b s i2 (if b - i2 ≥ 2 then Sort.shiftUp Sort.ltInt b (i2 + 1) L.toArray else L.toArray)).2, (Sort.partialIns Sort.ltInt a b s i2 (if b - i2 ≥ 2 then Sort.shiftUp Sort.ltInt b (i2 + 1) L.toArray else L.toArray)).1.toList) := by
     intro L q hL hq
     unfold pi_.j3
     rw [e4, e5]
     by_cases h2 : b - i2 ≥ 2
     ·rw [if_pos (by simp; omega), if_pos h2, pi_up _ b n _ _ hb hn (b - (i2 + 1)) (i2 + 1) L q (Nat.le_refl _) (by omega) hL (by omega) (by omega)]
      unfold pi_.j1
      rw [e6]
      have := ih i2 (Sort.shiftUp Sort.ltInt b (i2 + 1) L.toArray).toList k (by omega) (by omega) g2 (by rw [Array.length_toList, upSize b (b - (i2 + 1)) _ _ (Nat.le_refl _)]; simp [hL]) (by omega)
      simpa using this
     ·rw [if_neg (by simp; omega), if_neg h2]
      unfold pi_.j1
      rw [e6]
      exact ih i2 L k (by omega) (by omega) g2 hL (by omega)
    by_cases h2 : i2 - a ≥ 2
    ·rw [if_pos (by simp; omega), if_pos h2]
     obtain ⟨k2, hk4, q2⟩ := pi_down (pi_.l1 k (b : Int) n (a : Int)) n (b : Int) (((5 - (s + 1) : Nat)) : Int) (i2 : Int) hn (n + 2) (i2 - 1) ((l.set i2 (l.getD (i2 - 1) 0)).set (i2 - 1) (l.getD i2 0)) k1 (by omega) (by simp [hl]) (by omega)
     rw [q2, last _ k2 (by rw [Array.length_toList, downSize]; simp [hl]) hk4]
    ·rw [if_neg (by simp; omega), if_neg h2]
     exact last _ k1 (by simp [hl]) (by omega)
theorem pins_is (a b n : Nat) (hab : a < b) (hb : b ≤ n) (hn : n ≤ 1000000000000) (l : List Int) (hl : l.length = n) (k : Nat) (hk : 6 * (3 * n + 10) ≤ k) :
  pi_.f k n l (a : Int) (b : Int) = some ((Sort.partialInsertionSort Sort.ltInt l.toArray a b).2, (Sort.partialInsertionSort Sort.ltInt l.toArray a b).1.toList) := by
 unfold pi_.f Sort.partialInsertionSort
 have e1 : IntKind.wrap .i64 ((a : Int) + (1 : Int)) = ((a + 1 : Nat) : Int) := n64s (by omega) (by omega)
 rw [e1]
 exact pi_loop a b n hab hb hn 5 (a + 1) l k (by omega) (by omega) (by omega) hl hk
theorem ord2 (l : List Int) (a b : Nat) (s : Int) (ha : a < l.length) (hb : b < l.length) : ∃ (c d : Nat) (t : Int), o2_.f l (a : Int) (b : Int) s = some ((c : Int), (d : Int), t) ∧ (c = a ∨ c = b) ∧ (d = a ∨ d = b) := by
 unfold o2_.f
 simp only [if_pos (bs ha), if_pos (bs hb), less_is, Option.bind_some]
 split
 ·exact ⟨b, a, _, rfl, .inr rfl, .inl rfl⟩
 ·exact ⟨a, b, _, rfl, .inl rfl, .inr rfl⟩
theorem med (l : List Int) (a b c : Nat) (s : Int) (ha : a < l.length) (hb : b < l.length) (hc : c < l.length) : ∃ (q : Nat) (t : Int), md_.f l (a : Int) (b : Int) (c : Int) s = some ((q : Int), t) ∧ (q = a ∨ q = b ∨ q = c) := by
 unfold md_.f
 obtain ⟨a1, b1, t1, e1, h1, h2⟩ := ord2 l a b s ha hb
 rw [e1]; simp only [Option.bind_some]
 obtain ⟨b2, c2, t2, e2, h3, h4⟩ := ord2 l b1 c t1 (by omega) hc
 rw [e2]; simp only [Option.bind_some]
 obtain ⟨a3, b3, t3, e3, h5, h6⟩ := ord2 l a1 b2 t2 (by omega) (by omega)
 rw [e3]; simp only [Option.bind_some]
 exact ⟨b3, t3, rfl, by omega⟩
theorem medAdj (l : List Int) (a : Nat) (s : Int) (h1 : 1 ≤ a) (ha : a + 1 < l.length) (hn : l.length ≤ 1000000000000) : ∃ (q : Nat) (t : Int), ma_.f l (a : Int) s = some ((q : Int), t) ∧ a - 1 ≤ q ∧ q ≤ a + 1 := by
 unfold ma_.f
 have e1 : IntKind.wrap .i64 ((a : Int) - (1 : Int)) = ((a - 1 : Nat) : Int) := n64s (by omega) (by omega)
 have e2 : IntKind.wrap .i64 ((a : Int) + (1 : Int)) = ((a + 1 : Nat) : Int) := n64s (by omega) (by omega)
 rw [e1, e2]
 obtain ⟨q, t, e, h⟩ := med l (a - 1) a (a + 1) s (by omega) (by omega) ha
 rw [e]; simp only [Option.bind_some]
 exact ⟨q, t, rfl, by omega, by omega⟩
theorem piv (l : List Int) (a b : Nat) (hab : a < b) (hb : b ≤ l.length) (hn : l.length ≤ 1000000000000) : ∃ (q : Nat) (t : Int), cp_.f l (a : Int) (b : Int) = some ((q : Int), t) ∧ a ≤ q ∧ q < b := by
 unfold cp_.f
 have e0 : IntKind.wrap .i64 ((b : Int) - (a : Int)) = ((b - a : Nat) : Int) := n64s (by omega) (by omega)
 have e1 : IntKind.wrap .i64 (Int.tdiv ((b - a : Nat) : Int) (4 : Int)) = (((b - a) / 4 : Nat) : Int) := n64s (by rw [Int.tdiv_eq_ediv_of_nonneg (by omega)]; omega) (by omega)
 have e2 : IntKind.wrap .i64 ((((b - a) / 4 : Nat) : Int) * (1 : Int)) = (((b - a) / 4 : Nat) : Int) := n64s (by omega) (by omega)
 have e3 : IntKind.wrap .i64 ((((b - a) / 4 : Nat) : Int) * (2 : Int)) = (((b - a) / 4 * 2 : Nat) : Int) := n64s (by omega) (by omega)
 have e4 : IntKind.wrap .i64 ((((b - a) / 4 : Nat) : Int) * (3 : Int)) = (((b - a) / 4 * 3 : Nat) : Int) := n64s (by omega) (by omega)
 have f2 : IntKind.wrap .i64 ((a : Int) + (((b - a) / 4 : Nat) : Int)) = ((a + (b - a) / 4 : Nat) : Int) := n64s (by omega) (by omega)
 have f3 : IntKind.wrap .i64 ((a : Int) + (((b - a) / 4 * 2 : Nat) : Int)) = ((a + (b - a) / 4 * 2 : Nat) : Int) := n64s (by omega) (by omega)
 have f4 : IntKind.wrap .i64 ((a : Int) + (((b - a) / 4 * 3 : Nat) : Int)) = ((a + (b - a) / 4 * 3 : Nat) : Int) := n64s (by omega) (by omega)
 rw [e0, e1, lt_is (by rw [e2, f2]), lt_is (by rw [e3, f3]), lt_is (by rw [e4, f4])]
 have j1 : ∀ (x : Int) (q : Nat), ∃ t, cp_.j1 x (q : Int) = some ((q : Int), t) := by
  intro x q
  unfold cp_.j1
  split
  ·exact ⟨_, rfl⟩
  ·split <;> exact ⟨_, rfl⟩
 by_cases h8 : b - a ≥ 8
 ·rw [if_pos (by simp; omega)]
  by_cases h50 : b - a ≥ 50
  ·rw [if_pos (by simp; omega)]
   obtain ⟨q1, t1, g1, k1, k2⟩ := medAdj l (a + (b - a) / 4) 0 (by omega) (by omega) hn
   rw [g1]; simp only [Option.bind_some]
   obtain ⟨q2, t2, g2, k3, k4⟩ := medAdj l (a + (b - a) / 4 * 2) t1 (by omega) (by omega) hn
   rw [g2]; simp only [Option.bind_some]
   obtain ⟨q3, t3, g3, k5, k6⟩ := medAdj l (a + (b - a) / 4 * 3) t2 (by omega) (by omega) hn
   rw [g3]; simp only [Option.bind_some]
   unfold cp_.j2
   obtain ⟨q, t, e, h⟩ := med l q1 q2 q3 t3 (by omega) (by omega) (by omega)
   rw [e]; simp only [Option.bind_some]
   obtain ⟨u, hu⟩ := j1 t q
   exact ⟨q, u, hu, by omega, by omega⟩
  ·rw [if_neg (by simp; omega)]
   unfold cp_.j2
   obtain ⟨q, t, e, h⟩ := med l (a + (b - a) / 4) (a + (b - a) / 4 * 2) (a + (b - a) / 4 * 3) 0 (by omega) (by omega) (by omega)
   rw [e]; simp only [Option.bind_some]
   obtain ⟨u, hu⟩ := j1 t q
   exact ⟨q, u, hu, by omega, by omega⟩
 ·rw [if_neg (by simp; omega)]
  obtain ⟨u, hu⟩ := j1 0 (a + (b - a) / 4 * 2)
  exact ⟨_, u, hu, by omega, by omega⟩
theorem len_ok : (List.range 1001).all (fun n => Len.f (n : Int) == some ((if n = 0 then 0 else Nat.log2 n + 1 : Nat) : Int)) = true := by kernel_rfl
theorem and_le (x : Int) (m : Nat) (hm : m < 2 ^ 63) : 0 ≤ bitv .and .u64 x (m : Int) ∧ bitv .and .u64 x (m : Int) ≤ (m : Int) := by
 have e : (BitVec.ofInt 64 (m : Int)).toNat = m := by
  rw [BitVec.toNat_ofInt]; omega
 have h1 : ((BitVec.ofInt 64 x) &&& (BitVec.ofInt 64 (m : Int))).toNat ≤ m := by
  rw [BitVec.toNat_and, e]; exact Nat.and_le_right
 have h2 : bitv .and .u64 x (m : Int) = (((BitVec.ofInt 64 x) &&& (BitVec.ofInt 64 (m : Int))).toNat : Int) := by
  show IntKind.wrap .u64 _ = _
  refine IntWalk.u64_in _ ?_
  change 0 ≤ ((((BitVec.ofInt 64 x) &&& (BitVec.ofInt 64 (m : Int))).toNat : Nat) : Int) ∧ ((((BitVec.ofInt 64 x) &&& (BitVec.ofInt 64 (m : Int))).toNat : Nat) : Int) ≤ 18446744073709551615
  omega
 rw [h2]; omega
theorem len_is (n : Nat) (h : n ≤ 1000) : Len.f (n : Int) = some ((if n = 0 then 0 else Nat.log2 n + 1 : Nat) : Int) := by
 have := List.all_eq_true.1 len_ok n (List.mem_range.2 (by omega))
 simpa using this
theorem brk_loop (a b n L : Nat) (hab : a + 8 ≤ b) (hb : b ≤ n) (hn : n ≤ 1000) (hL : 2 ^ L ≤ 2 * (b - a)) (hL2 : L ≤ 20) : ∀ (m i : Nat) (x : Int) (l : List Int) (k : Nat), a + (b - a) / 4 * 2 + 2 - i ≤ m → a ≤ i → l.length = n → m + 1 ≤ k →
  ∃ r, bp_.l1 k (a : Int) (b : Int) ((2 ^ L : Nat) : Int) n x l (i : Int) = some r ∧ r.length = n ∧ Sort.PermIn a b l.toArray r.toArray := by
 have e0 : IntKind.wrap .i64 ((b : Int) - (a : Int)) = ((b - a : Nat) : Int) := n64s (by omega) (by omega)
 have e1 : IntKind.wrap .i64 (Int.tdiv ((b - a : Nat) : Int) (4 : Int)) = (((b - a) / 4 : Nat) : Int) := n64s (by rw [Int.tdiv_eq_ediv_of_nonneg (by omega)]; omega) (by omega)
 have e3 : IntKind.wrap .i64 ((((b - a) / 4 : Nat) : Int) * (2 : Int)) = (((b - a) / 4 * 2 : Nat) : Int) := n64s (by omega) (by omega)
 have f3 : IntKind.wrap .i64 ((a : Int) + (((b - a) / 4 * 2 : Nat) : Int)) = ((a + (b - a) / 4 * 2 : Nat) : Int) := n64s (by omega) (by omega)
 have f4 : IntKind.wrap .i64 (((a + (b - a) / 4 * 2 : Nat) : Int) + (1 : Int)) = ((a + (b - a) / 4 * 2 + 1 : Nat) : Int) := n64s (by omega) (by omega)
 have hp : 1 ≤ 2 ^ L := Nat.one_le_two_pow
 have g1 : IntKind.wrap .u64 (((2 ^ L : Nat) : Int) - (1 : Int)) = ((2 ^ L - 1 : Nat) : Int) := by
  rw [IntWalk.u64_in _ ⟨by omega, by omega⟩]; omega
 intro m
 induction m with
 | zero =>
  intro i x l k hm hi hl hk
  obtain ⟨k, rfl⟩ : ∃ q, k = q + 1 := ⟨k - 1, by omega⟩
  unfold bp_.l1
  rw [e0, e1, e3, f3, f4, if_neg (by simp; omega)]
  exact ⟨l, rfl, hl, Sort.permIn_refl _ _ _⟩
 | succ m ih =>
  intro i x l k hm hi hl hk
  obtain ⟨k, rfl⟩ : ∃ q, k = q + 1 := ⟨k - 1, by omega⟩
  unfold bp_.l1
  rw [e0, e1, e3, f3, f4]
  by_cases h : i ≤ a + (b - a) / 4 * 2 + 1
  ·rw [if_pos (by simp; omega)]
   obtain ⟨r, hr⟩ : ∃ r, Next.f x = some r := ⟨_, rfl⟩
   rw [hr, Option.bind_some, g1]
   obtain ⟨o, ho, ho2⟩ : ∃ o : Nat, bitv .and .u64 r.1 ((2 ^ L - 1 : Nat) : Int) = (o : Int) ∧ o ≤ 2 ^ L - 1 := by
    obtain ⟨q1, q2⟩ := and_le r.1 (2 ^ L - 1) (by omega)
    exact ⟨(bitv .and .u64 r.1 ((2 ^ L - 1 : Nat) : Int)).toNat, by omega, by omega⟩
   rw [ho, lt_is (n64 (by omega))]
   have fin : ∀ c : Nat, c < b - a → ∃ q, bp_.j1 (bp_.l1 k (a : Int) (b : Int) ((2 ^ L : Nat) : Int) n) (a : Int) n (i : Int) r l (c : Int) = some q ∧ q.length = n ∧ Sort.PermIn a b l.toArray q.toArray := by
    intro c hc
    unfold bp_.j1
    have h1 : IntKind.wrap .i64 ((a : Int) + (c : Int)) = ((a + c : Nat) : Int) := n64s (by omega) (by omega)
    have h2 : IntKind.wrap .i64 ((i : Int) + (1 : Int)) = ((i + 1 : Nat) : Int) := n64s (by omega) (by omega)
    simp only [h1, h2, Int.toNat_natCast, if_pos (bs (show a + c < n by omega)), if_pos (bs (show i < n by omega))]
    obtain ⟨q, q1, q2, q3⟩ := ih (i + 1) r.2 ((l.set i (l.getD (a + c) 0)).set (a + c) (l.getD i 0)) k (by omega) (by omega) (by simp [hl]) (by omega)
    refine ⟨q, q1, q2, Sort.permIn_trans _ _ _ a b ?_ q3⟩
    rw [← ar_swp]
    exact Sort.swp_permIn _ a b i (a + c) hi (by omega) (by omega) (by omega) (by simp [hl]; omega)
   by_cases h2 : o ≥ b - a
   ·rw [if_pos (by simp; omega), lt_is (n64s (n := o - (b - a)) (by omega) (by omega))]
    exact fin _ (by omega)
   ·rw [if_neg (by simp; omega)]
    exact fin _ (by omega)
  ·rw [if_neg (by simp; omega)]
   exact ⟨l, rfl, hl, Sort.permIn_refl _ _ _⟩
theorem brk_is (a b n : Nat) (hab : a ≤ b) (hb : b ≤ n) (hn : n ≤ 1000) (l : List Int) (hl : l.length = n) (k : Nat) (hk : n + 5 ≤ k) :
  ∃ r, bp_.f k n l (a : Int) (b : Int) = some r ∧ r.length = n ∧ Sort.PermIn a b l.toArray r.toArray := by
 have e0 : IntKind.wrap .i64 ((b : Int) - (a : Int)) = ((b - a : Nat) : Int) := n64s (by omega) (by omega)
 unfold bp_.f
 rw [e0]
 by_cases h8 : b - a ≥ 8
 ·have e1 : IntKind.wrap .i64 (Int.tdiv ((b - a : Nat) : Int) (4 : Int)) = (((b - a) / 4 : Nat) : Int) := n64s (by rw [Int.tdiv_eq_ediv_of_nonneg (by omega)]; omega) (by omega)
  have e3 : IntKind.wrap .i64 ((((b - a) / 4 : Nat) : Int) * (2 : Int)) = (((b - a) / 4 * 2 : Nat) : Int) := n64s (by omega) (by omega)
  have f3 : IntKind.wrap .i64 ((a : Int) + (((b - a) / 4 * 2 : Nat) : Int)) = ((a + (b - a) / 4 * 2 : Nat) : Int) := n64s (by omega) (by omega)
  have f4 : IntKind.wrap .i64 (((a + (b - a) / 4 * 2 : Nat) : Int) - (1 : Int)) = ((a + (b - a) / 4 * 2 - 1 : Nat) : Int) := n64s (by omega) (by omega)
  have hne : b - a ≠ 0 := by omega
  have h1 : 2 ^ (b - a).log2 ≤ b - a := Nat.log2_self_le hne
  have h2 : (b - a).log2 < 10 := (Nat.log2_lt hne).2 (by omega)
  have h3 : 2 ^ ((b - a).log2 + 1) ≤ 2 * (b - a) := by rw [Nat.pow_succ]; omega
  have hN : nextPowerOfTwo.f ((b - a : Nat) : Int) = some ((2 ^ ((b - a).log2 + 1) : Nat) : Int) := by
   unfold nextPowerOfTwo.f
   rw [IntWalk.u64_in _ ⟨by omega, by omega⟩, len_is (b - a) (by omega), if_neg hne, Option.bind_some, if_pos (by omega)]
   rw [Int.toNat_natCast, Nat.min_eq_left (by omega), Int.one_mul]
   have hp : ((2 : Int) ^ ((b - a).log2 + 1)) = ((2 ^ ((b - a).log2 + 1) : Nat) : Int) := by simp
   rw [hp, IntWalk.u64_in _ ⟨Int.natCast_nonneg _, Int.ofNat_le.2 (show (2 ^ ((b - a).log2 + 1) : Nat) ≤ 18446744073709551615 by omega)⟩]
   rfl
  rw [if_pos (by simp; omega), hN, e1, e3, f3, lt_is rfl, Option.bind_some, lt_is f4]
  exact brk_loop a b n _ (by omega) hb hn h3 (by omega) (n + 3) _ _ l k (by omega) (by omega) hl (by omega)
 ·rw [if_neg (by simp; omega)]
  exact ⟨l, rfl, hl, Sort.permIn_refl _ _ _⟩
def pdM (n : Nat) : Nat := (n + 3) * (2 * n + 5) + 6 * (3 * n + 10) + 3 * n + 20
def Srt (n a b : Nat) (l : List Int) (o : Option (List Int)) : Prop := ∃ r, o = some r ∧ r.length = n ∧ Sort.PermIn a b l.toArray r.toArray ∧ Sort.SortedIn Sort.ltInt a b r.toArray
theorem arr_list (d : Array Int) : d.toList.toArray = d := by simp
theorem pdq_ok (n : Nat) (hn : n ≤ 1000) : ∀ (m a b : Nat) (l : List Int) (lim : Int) (wb wp : Bool) (k kk : Nat), b - a ≤ m → a ≤ b → b ≤ n → l.length = n → Sort.Below Sort.ltInt a b l.toArray → pdM n + m + 1 ≤ k → pdM n + m + 2 ≤ kk →
  Srt n a b l (pq_.l1 k (pq_.f kk) n l (a : Int) (b : Int) lim wb wp) := by
 have hM1 : (n + 3) * (2 * n + 5) + 6 * (3 * n + 10) + 3 * n + 20 = pdM n := rfl
 have hS : Sort.SWO Sort.ltInt := Sort.swo_ltInt
 have hM2 : (n + 1) * (2 * n + 5) ≤ (n + 3) * (2 * n + 5) := Nat.mul_le_mul_right _ (by omega)
 intro m
 induction m with
 | zero =>
  intro a b l lim wb wp k kk hm hab hb hl hB hk hkk
  obtain ⟨k, rfl⟩ : ∃ q, k = q + 1 := ⟨k - 1, by omega⟩
  unfold pq_.l1
  rw [n64s (n := b - a) (by omega) (by omega), if_pos (by simp; omega), ins_is a b n hab hb (by omega) l hl k (by omega)]
  obtain ⟨q1, q2⟩ := Sort.insertionSort_holds hS l.toArray a b hab (by simpa [hl] using hb)
  exact ⟨_, rfl, by rw [Array.length_toList, q1.1]; simpa using hl, by rw [arr_list]; exact q1, by rw [arr_list]; exact q2⟩
 | succ m ih =>
  intro a b l lim wb wp k kk hm hab hb hl hB hk hkk
  obtain ⟨k, rfl⟩ : ∃ q, k = q + 1 := ⟨k - 1, by omega⟩
  obtain ⟨kk, rfl⟩ : ∃ q, kk = q + 1 := ⟨kk - 1, by omega⟩
  have e0 : IntKind.wrap .i64 ((b : Int) - (a : Int)) = ((b - a : Nat) : Int) := n64s (by omega) (by omega)
  have hbl : b ≤ l.toArray.size := by simpa [hl] using hb
  have J4 : ∀ (L : List Int) (p : Nat) (lim2 : Int), L.length = n → Sort.PermIn a b l.toArray L.toArray → a ≤ p → p < b → Srt n a b l (pq_.j4 k (pq_.f (kk + 1)) (pq_.l1 k (pq_.f (kk + 1)) n) n L (a : Int) (b : Int) (p : Int) lim2) := by
   intro L p lim2 hL hP hp1 hp2
   have hbL : b ≤ L.toArray.size := by simpa [hL] using hb
   unfold pq_.j4
   rw [part_is a b p n hp1 hp2 hb (by omega) L hL k (by omega), Option.bind_some]
   obtain ⟨g1, g2, hs4, hBa, hBr, hleft, hright⟩ := Sort.round_part (d4 := (Sort.partition Sort.ltInt L.toArray a b p).2.2) (mid := (Sort.partition Sort.ltInt L.toArray a b p).1) (ap := (Sort.partition Sort.ltInt L.toArray a b p).2.1) hS (Sort.partition_holds _) hp1 hp2 hbL (hB.perm hbl hP) rfl
   generalize (Sort.partition Sort.ltInt L.toArray a b p).1 = mid at *
   generalize (Sort.partition Sort.ltInt L.toArray a b p).2.1 = ap at *
   generalize (Sort.partition Sort.ltInt L.toArray a b p).2.2 = d4 at *
   have hd4 : d4.toList.length = n := by rw [Array.length_toList, hs4]; simpa using hL
   have e1 : IntKind.wrap .i64 ((mid : Int) - (a : Int)) = ((mid - a : Nat) : Int) := n64s (by omega) (by omega)
   have e2 : IntKind.wrap .i64 ((b : Int) - (mid : Int)) = ((b - mid : Nat) : Int) := n64s (by omega) (by omega)
   have e3 : IntKind.wrap .i64 ((mid : Int) + (1 : Int)) = ((mid + 1 : Nat) : Int) := n64s (by omega) (by omega)
   dsimp only
   rw [e1, e2, e3]
   simp only [lt_is rfl]
   split
   ·obtain ⟨r1, q1, q2, q3, q4⟩ := ih a mid d4.toList lim2 true true kk kk (by omega) (by omega) (by omega) hd4 (by rw [arr_list]; exact hBa) (by omega) (by omega)
    have q1' : pq_.f (kk + 1) n d4.toList (a : Int) (mid : Int) lim2 = some r1 := q1
    rw [q1', Option.bind_some]
    rw [arr_list] at q3
    obtain ⟨hBL, hfin⟩ := hleft _ q3 q4
    obtain ⟨r2, s1, s2, s3, s4⟩ := ih (mid + 1) b r1 lim2 _ ap k (kk + 1) (by omega) (by omega) hb q2 hBL (by omega) (by omega)
    rw [s1]
    obtain ⟨f1, f2⟩ := hfin _ s3 s4
    exact ⟨r2, rfl, s2, Sort.permIn_trans _ _ _ a b hP f1, f2⟩
   ·obtain ⟨r1, q1, q2, q3, q4⟩ := ih (mid + 1) b d4.toList lim2 true true kk kk (by omega) (by omega) hb hd4 (by rw [arr_list]; exact hBr) (by omega) (by omega)
    have q1' : pq_.f (kk + 1) n d4.toList ((mid + 1 : Nat) : Int) (b : Int) lim2 = some r1 := q1
    rw [q1', Option.bind_some]
    rw [arr_list] at q3
    obtain ⟨hBL, hfin⟩ := hright _ q3 q4
    obtain ⟨r2, s1, s2, s3, s4⟩ := ih a mid r1 lim2 _ ap k (kk + 1) (by omega) (by omega) (by omega) q2 hBL (by omega) (by omega)
    rw [s1]
    obtain ⟨f1, f2⟩ := hfin _ s3 s4
    exact ⟨r2, rfl, s2, Sort.permIn_trans _ _ _ a b hP f1, f2⟩
  have J3 : ∀ (L : List Int) (p : Nat) (lim2 : Int) (wb wp : Bool), L.length = n → Sort.PermIn a b l.toArray L.toArray → a ≤ p → p < b → Srt n a b l (pq_.j3 k (pq_.f (kk + 1)) (pq_.l1 k (pq_.f (kk + 1)) n) (a : Int) n (p : Int) (b : Int) lim2 wb wp L) := by
   intro L p lim2 wb wp hL hP hp1 hp2
   have hbL : b ≤ L.toArray.size := by simpa [hL] using hb
   unfold pq_.j3
   by_cases ha : 0 < a
   ·have e1 : IntKind.wrap .i64 ((a : Int) - (1 : Int)) = ((a - 1 : Nat) : Int) := n64s (by omega) (by omega)
    rw [if_pos (by simp; omega), e1]
    simp only [Int.toNat_natCast, if_pos (bs (show a - 1 < n by omega)), if_pos (bs (show p < n by omega)), less_is, Option.bind_some]
    by_cases h2 : (!Sort.ltInt (L.getD (a - 1) 0) (L.getD p 0)) = true
    ·rw [if_pos h2, peq_is a b p n hp1 hp2 hb (by omega) L hL k (by omega), Option.bind_some]
     obtain ⟨g1, g2, hs4, hB4, hfin⟩ := Sort.round_eq (d4 := (Sort.partitionEqual Sort.ltInt L.toArray a b p).2) (mid := (Sort.partitionEqual Sort.ltInt L.toArray a b p).1) hS (Sort.partitionEqual_holds _) ha hp1 hp2 hbL (hB.perm hbl hP) (by rw [ar_get, ar_get]; simpa using h2) rfl
     generalize (Sort.partitionEqual Sort.ltInt L.toArray a b p).1 = mid at *
     generalize (Sort.partitionEqual Sort.ltInt L.toArray a b p).2 = d4 at *
     obtain ⟨r2, s1, s2, s3, s4⟩ := ih mid b d4.toList lim2 wb wp k (kk + 1) (by omega) g2 hb (by rw [Array.length_toList, hs4]; simpa using hL) (by rw [arr_list]; exact hB4) (by omega) (by omega)
     dsimp only
     rw [s1]
     rw [arr_list] at s3
     obtain ⟨f1, f2⟩ := hfin _ s3 s4
     exact ⟨r2, rfl, s2, Sort.permIn_trans _ _ _ a b hP f1, f2⟩
    ·rw [if_neg h2]
     exact J4 L p lim2 hL hP hp1 hp2
   ·rw [if_neg (by simp; omega)]
    exact J4 L p lim2 hL hP hp1 hp2
  have J2 : ∀ (L : List Int) (p : Nat) (hint lim2 : Int), L.length = n → Sort.PermIn a b l.toArray L.toArray → a ≤ p → p < b → Srt n a b l (pq_.j2 k (pq_.f (kk + 1)) (pq_.l1 k (pq_.f (kk + 1)) n) wb wp n (a : Int) (b : Int) lim2 L (p : Int) hint) := by
   intro L p hint lim2 hL hP hp1 hp2
   have hbL : b ≤ L.toArray.size := by simpa [hL] using hb
   unfold pq_.j2
   split
   ·split
    ·split
     ·rw [pins_is a b n (by omega) hb (by omega) L hL k (by omega), Option.bind_some]
      obtain ⟨q1, q2⟩ := Sort.partialInsertionSort_holds hS L.toArray a b (by omega) hbL (hB.perm hbl hP)
      dsimp only
      split
      ·rename_i h
       exact ⟨_, rfl, by rw [Array.length_toList, q1.1]; simpa using hL, by rw [arr_list]; exact Sort.permIn_trans _ _ _ a b hP q1, by rw [arr_list]; exact q2 h⟩
      ·exact J3 _ p lim2 wb wp (by rw [Array.length_toList, q1.1]; simpa using hL) (by rw [arr_list]; exact Sort.permIn_trans _ _ _ a b hP q1) hp1 hp2
     ·exact J3 L p lim2 wb wp hL hP hp1 hp2
    ·exact J3 L p lim2 wb wp hL hP hp1 hp2
   ·exact J3 L p lim2 wb wp hL hP hp1 hp2
  have J1 : ∀ (L : List Int) (lim2 : Int), 12 < b - a → L.length = n → Sort.PermIn a b l.toArray L.toArray → Srt n a b l (pq_.j1 k (pq_.f (kk + 1)) (pq_.l1 k (pq_.f (kk + 1)) n) (a : Int) (b : Int) n wb wp L lim2) := by
   intro L lim2 h12 hL hP
   have hbL : b ≤ L.toArray.size := by simpa [hL] using hb
   unfold pq_.j1
   obtain ⟨p, t, e1, hp1, hp2⟩ := piv L a b (by omega) (by omega) (by omega)
   rw [e1, Option.bind_some]
   dsimp only
   split
   ·rw [rev_is a b n (by omega) hb (by omega) L hL k (by omega), Option.bind_some]
    have q1 := Sort.reverseRange_holds L.toArray a b hab hbL
    have e2 : IntKind.wrap .i64 ((b : Int) - (1 : Int)) = ((b - 1 : Nat) : Int) := n64s (by omega) (by omega)
    have e3 : IntKind.wrap .i64 ((p : Int) - (a : Int)) = ((p - a : Nat) : Int) := n64s (by omega) (by omega)
    have e4 : IntKind.wrap .i64 (((b - 1 : Nat) : Int) - ((p - a : Nat) : Int)) = ((b - 1 - (p - a) : Nat) : Int) := n64s (by omega) (by omega)
    rw [lt_is (by rw [e2, e3, e4])]
    exact J2 _ _ _ _ (by rw [Array.length_toList, q1.1]; simpa using hL) (by rw [arr_list]; exact Sort.permIn_trans _ _ _ a b hP q1) (by omega) (by omega)
   ·exact J2 L p t lim2 hL hP hp1 hp2
  unfold pq_.l1
  rw [e0]
  by_cases h12 : b - a ≤ 12
  ·rw [if_pos (by simp; omega), ins_is a b n hab hb (by omega) l hl k (by omega)]
   obtain ⟨q1, q2⟩ := Sort.insertionSort_holds hS l.toArray a b hab hbl
   exact ⟨_, rfl, by rw [Array.length_toList, q1.1]; simpa using hl, by rw [arr_list]; exact q1, by rw [arr_list]; exact q2⟩
  ·rw [if_neg (by simp; omega)]
   split
   ·rw [heap_is a b n hab hb (by omega) l hl k (by omega)]
    obtain ⟨q1, q2⟩ := Sort.heapSort_holds hS l.toArray a b hab hbl
    exact ⟨_, rfl, by rw [Array.length_toList, q1.1]; simpa using hl, by rw [arr_list]; exact q1, by rw [arr_list]; exact q2⟩
   ·split
    ·obtain ⟨r, q1, q2, q3⟩ := brk_is a b n hab hb hn l hl k (by omega)
     rw [q1, Option.bind_some]
     exact J1 r _ (by omega) q2 q3
    ·exact J1 l _ (by omega) hl (Sort.permIn_refl _ _ _)
end Go.Proofs.YticnjkdaccacaaaGreat.Pl
end
section
namespace Go.Proofs.YticnjkdaccacaaaGreat.Sx
open Go Go.RowKit Base Oq QS Pl
theorem sort_pl (l : List Int) (h : l.length ≤ 1000) : ∃ k, st_.f k l.length l = some (l.mergeSort fun x y => decide (x ≤ y)) := by
 refine ⟨pdM l.length + l.length + 3 + 1, ?_⟩
 unfold st_.f
 rw [IntWalk.u64_in _ ⟨by omega, by omega⟩, len_is l.length h, Option.bind_some]
 obtain ⟨r, q1, q2, q3, q4⟩ := pdq_ok l.length h l.length 0 l.length l ((if l.length = 0 then 0 else Nat.log2 l.length + 1 : Nat) : Int) true true (pdM l.length + l.length + 3) (pdM l.length + l.length + 3) (by omega) (by omega) (Nat.le_refl _) rfl (.inl rfl) (by omega) (by omega)
 have q1' : pq_.f (pdM l.length + l.length + 3 + 1) l.length l (0 : Int) (l.length : Int) ((if l.length = 0 then 0 else Nat.log2 l.length + 1 : Nat) : Int) = some r := q1
 rw [q1', Option.bind_some]
 have hu := Sort.sorted_unique_holds Sort.swo_ltInt (fun x y h1 h2 => by simp [Sort.ltInt] at h1 h2; omega) l.toArray r.toArray (by simpa using q3) (by simpa using q4)
 simp only at hu
 rw [hu]
 congr 2
 funext x y
 by_cases hxy : x ≤ y
 ·simp [Sort.ltInt, hxy]
 ·simp [Sort.ltInt, hxy]; omega
end Go.Proofs.YticnjkdaccacaaaGreat.Sx
end
section
namespace Go.Proofs.YticnjkdaccacaaaGreat.Sx
open Go Go.RowKit Base Oq QS
def Clk.due (now : Int) (m : List (Int × Int)) : List Int := ((m.filter fun p => IntKind.wrap .i64 (p.2 - now) == 0).map (·.1)).mergeSort fun x y => decide (x ≤ y)
theorem orc0 : (⟨[], []⟩ : Orc).Ok Tryz.prog := ⟨trivial, trivial⟩
theorem clk_new {w0 w : World} {R : List Asn} (S : Sat w0 w R) : Calls Tryz.prog 51 #[] w fun e w' => ∃ b g, e = .returned (.pointer (some ⟨b, 0, none⟩)) ∧
  Sat w0 w' (stA 131 b [.int .i64 0, .map (some g)] :: mapA .u32 (Value.int .i64) g [] :: R) := by
 refine calls_start (N := 4) [] Tryz.func51 rfl rfl rfl rfl fun a fr => ?_
 refine r_ rfl ?_
 refine wl_run orc0 1 rfl fr fun a fr => ?_
 refine er_ rfl rfl ?_
 refine wl_mkmap .u32 (Value.int .i64) fr rfl rfl rfl rfl S ?_
 intro w g S a fr
 refine wl_build (cs := [.int .i64 0, .map (some g)]) (L2 := [(1, .map (some g))]) fr rfl rfl rfl rfl (by simpa using (fr.ev (o := .tmp 1) rfl).1) (by kernel_rfl) rfl fun a fr => ?_
 refine wl_boxs fr rfl rfl rfl rfl rfl rfl S ?_
 intro w b S a fr
 refine wl_run orc0 1 rfl fr fun a fr => ?_
 refine e_ ?_
 refine wp_ret ?_
 refine ret1 fr rfl rfl ?_
 exact ⟨b, g, rfl, S⟩
def orcC : Orc := ⟨[(3, .int .i64), (31, .int .u32), (129, .map 31 3), (131, .struct #[Go.Field.mk "now" 3 0 false "" "concordat/clocks" 0, Go.Field.mk "when" 129 1 false "" "concordat/clocks" 8]), (72, .slice 31)],
 [(3, 1), (31, 1), (129, 1)]⟩
theorem oC_ : orcC.Ok Tryz.prog := ⟨⟨Tryz.underlying3, Tryz.underlying31, Tryz.underlying129, Tryz.underlying131, Tryz.underlying72, trivial⟩, ⟨by kernel_rfl, by kernel_rfl, by kernel_rfl, trivial⟩⟩
theorem clk_in1 : Enters Tryz.prog 55 := fun _ _ => by kernel_rfl
theorem clk_in2 : Enters Tryz.prog 57 := fun _ _ => by kernel_rfl
theorem clk_lit : RowTy Tryz.prog 72 31 .u32 := ⟨Tryz.underlying72, 4, by decide, by kernel_rfl⟩
theorem clk_f {w0 w : World} {R : List Asn} (x : Int) (hx : (Lit.int .i64 x).wf = true) (S : Sat w0 w R) : Calls Tryz.prog 55 #[.int .i64 x] w fun e w' => e = .returned (.bool (x == 0)) ∧ Sat w0 w' R := by
 refine calls_start (N := 5) [.int .i64 x] Tryz.func55 rfl rfl rfl (vok_c hx rfl) fun a fr => ?_
 refine r_ rfl ?_
 refine wl_run orc0 1 rfl fr fun a fr => ?_
 refine er_ rfl rfl ?_
 refine wl_run orc0 3 rfl fr fun a fr => ?_
 refine e_ ?_
 refine wp_ret ?_
 refine ret1 fr rfl rfl ?_
 exact ⟨rfl, S⟩
def clkH (now : Int) (p : Int × Int) : Bool := IntKind.wrap .i64 (p.2 - now) == 0
def clkC (now : Int) (q : List (Int × Int)) : List Int := (q.filter (clkH now)).map (·.1)
theorem due_of {now : Int} {m : List (Int × Int)} {l : List Int} (h : l.Perm (clkC now m)) : (l.mergeSort fun x y => decide (x ≤ y)) = Clk.due now m := by
 refine List.Perm.eq_of_pairwise (le := fun x y => x ≤ y) (fun a b _ _ h1 h2 => Int.le_antisymm h1 h2) ?_ ?_ ((List.mergeSort_perm _ _).trans (h.trans (List.mergeSort_perm _ _).symm))
 all_goals
  have := List.pairwise_mergeSort (le := fun (x y : Int) => decide (x ≤ y)) (fun a b c h1 h2 => by simp only [decide_eq_true_eq] at *; omega) (fun a b => by simp only [Bool.or_eq_true, decide_eq_true_eq]; omega)
  first
   | simpa using this l
   | (show List.Pairwise _ ((clkC now m).mergeSort fun x y => decide (x ≤ y)); simpa using this (clkC now m))
theorem clk_those {w0 w : World} {R : List Asn} {b g : Nat} {now : Int} {m : List (Int × Int)} (S : Sat w0 w (stA 131 b [.int .i64 now, .map (some g)] :: mapA .u32 (Value.int .i64) g m :: R)) (hc : m.length ≤ 1000) :
  Calls Tryz.prog 54 #[.pointer (some ⟨b, 0, none⟩), .func (.func 55) #[] #[]] w fun e w' => ∃ A c, e = .returned (.slice A (Clk.due now m).length c) ∧ vok (.slice A (Clk.due now m).length c) = true ∧
   Sat w0 w' (ownA .u32 31 A c (Clk.due now m) :: stA 131 b [.int .i64 now, .map (some g)] :: mapA .u32 (Value.int .i64) g m :: R) := by
 refine calls_start (N := 32) [.pointer (some ⟨b, 0, none⟩), .func (.func 55) #[] #[]] Tryz.func54 rfl rfl rfl rfl fun a fr => ?_
 refine r_ rfl ?_
 refine wl_run oC_ 1 rfl fr fun a fr => ?_
 refine er_ rfl rfl ?_
 refine wl_run oC_ 3 rfl fr fun a fr => ?_
 refine wl_ldf oC_ (Sat.stAt S 0 rfl (j := 1) rfl) fr rfl rfl rfl rfl rfl rfl rfl fun a fr => ?_
 have S : Sat w0 _ (mapA .u32 (Value.int .i64) g m :: stA 131 b [.int .i64 now, .map (some g)] :: R) := S.frontAt 1 rfl
 refine wl_range oC_ fr rfl rfl rfl rfl rfl rfl S ?_
 intro w r S a fr
 refine e_ ?_
 have S := S.nilRow .u32 31
 refine wp_block ?_
 refine cw_loop (fun q a w => ∃ A c l left cur, left.length + 1 = q ∧ (l ++ clkC now left).Perm (clkC now m) ∧ Fr 32 a [(0, .pointer (some ⟨b, 0, none⟩)), (1, .func (.func 55) #[] #[]), (4, .slice A (List.length l) c), (11, .pointer (some ⟨r, 0, none⟩))] ∧
   Sat w0 w (ownA .u32 31 A c l :: iterA .u32 (Value.int .i64) g r m left cur :: stA 131 b [.int .i64 now, .map (some g)] :: R)) (m.length + 1) ⟨none, 0, [], m, none, rfl, List.Perm.refl _, fr.sub ⟨rfl, rfl, rfl, rfl, trivial⟩, S⟩ ?_ ?_
 ·rintro a w ⟨A, c, l, left, cur, h, -⟩
  omega
 ·rintro q a w ⟨A, c, l, left, cur, hq, hp, fr, S⟩
  refine r_ rfl ?_
  have S : Sat w0 _ (iterA .u32 (Value.int .i64) g r m left cur :: ownA .u32 31 A c l :: stA 131 b [.int .i64 now, .map (some g)] :: R) := S.frontAt 1 rfl
  refine wl_next (fun _ => rfl) fr rfl rfl rfl rfl rfl S ?_ ?_
  ·intro hl a fr
   subst hl
   refine wl_run oC_ 1 rfl fr fun a fr => ?_
   refine eq_ rfl rfl ?_
   refine cw_f fr rfl ?_
   refine wp_exit ?_
   refine then_e ?_
   refine then_e ?_
   refine blk_y ?_
   with_reducible refine then_n ?_
   have S := S.iterEnd
   have S : Sat w0 _ (ownA .u32 31 A c l :: mapA .u32 (Value.int .i64) g m :: stA 131 b [.int .i64 now, .map (some g)] :: R) := S.frontAt 1 rfl
   have hl : l.Perm (clkC now m) := by simpa [clkC] using hp
   have hlen : l.length ≤ 1000 := by
    rw [hl.length_eq, clkC, List.length_map]
    exact Nat.le_trans (List.length_filter_le _ _) hc
   obtain ⟨k, hk⟩ := sort_pl l hlen
   have S := S.toRow
   refine r_ rfl ?_
   refine wl_run oC_ 1 rfl fr fun a fr => ?_
   refine wl_call fr rfl rfl rfl rfl clk_in2 (st_.walk k A c l.length l (fr.slice (d := 29) rfl) S hk) ?_
   rintro _ w ⟨rfl, S⟩
   refine ⟨_, rfl, rfl, fun a fr => ?_⟩
   refine er_ rfl rfl ?_
   refine wl_run oC_ 2 rfl fr fun a fr => ?_
   refine e_ ?_
   refine wp_ret ?_
   refine ret1 fr rfl rfl ?_
   rw [due_of hl] at S
   have hv := fr.vok (d := 4) rfl
   obtain ⟨en, S⟩ := S.ofRow
   rw [← en] at hv ⊢
   have S : Sat w0 _ (stA 131 b [.int .i64 now, .map (some g)] :: ownA .u32 31 A c (Clk.due now m) :: mapA .u32 (Value.int .i64) g m :: R) := S.frontAt 2 rfl
   have S : Sat w0 _ (ownA .u32 31 A c (Clk.due now m) :: stA 131 b [.int .i64 now, .map (some g)] :: mapA .u32 (Value.int .i64) g m :: R) := S.frontAt 1 rfl
   exact ⟨A, c, rfl, hv, S⟩
  ·intro w p l1 l2 hl S1 a fr
   subst hl
   have S := S1
   clear S1
   refine wl_run oC_ 1 rfl fr fun a fr => ?_
   refine eq_ rfl rfl ?_
   refine cw_t fr rfl ?_
   refine wp_skip ?_
   with_reducible refine then_n ?_
   refine wp_block ?_
   refine r_ rfl ?_
   refine wl_entry (fun _ => rfl) fr rfl rfl rfl rfl rfl S ?_
   intro a fr
   refine wl_run oC_ 4 rfl fr fun a fr => ?_
   refine er_ rfl rfl ?_
   refine wl_run oC_ 5 rfl fr fun a fr => ?_
   refine wl_ldf oC_ (Sat.stAt S 2 rfl (j := 0) rfl) fr rfl rfl rfl rfl rfl rfl rfl fun a fr => ?_
   refine wl_run oC_ 1 rfl fr fun a fr => ?_
   refine wl_callv fr rfl rfl rfl rfl rfl rfl rfl clk_in1 (clk_f _ (fr.int (d := 23) rfl) S) ?_
   rintro _ w ⟨rfl, S⟩
   refine ⟨_, rfl, rfl, fun a fr => ?_⟩
   refine e_ ?_
   have hh : (IntKind.wrap .i64 (p.2 - now) == 0) = clkH now p := rfl
   cases hb : clkH now p with
   | false =>
    rw [hb] at hh
    refine cw_f fr (congrArg (fun z => some (Value.bool z)) hh) ?_
    refine wp_skip ?_
    refine blk_n ?_
    with_reducible refine then_n ?_
    refine ⟨A, c, l, l1 ++ l2, some p, by simp at hq ⊢; omega, ?_, fr.sub ⟨rfl, rfl, rfl, rfl, trivial⟩, S.frontAt 1 rfl⟩
    refine List.Perm.trans (List.Perm.append_left l ?_) hp
    simp [clkC, hb]
   | true =>
    rw [hb] at hh
    refine cw_t fr (congrArg (fun z => some (Value.bool z)) hh) ?_
    refine wp_region_lit ?_
    refine wl_run oC_ 2 rfl fr fun a fr => ?_
    refine wl_lit (xs := [p.1]) oC_ clk_lit fr rfl rfl rfl rfl ⟨rfl, rfl, trivial⟩ rfl rfl S ?_
    intro w A1 c1 S
    intro a fr
    have hy := Sat.ownAt S 0 rfl
    have S : Sat w0 _ (ownA .u32 31 A c l :: ownA .u32 31 A1 c1 [p.1] :: iterA .u32 (Value.int .i64) g r m (l1 ++ l2) (some p) :: stA 131 b [.int .i64 now, .map (some g)] :: R) := S.frontAt 2 rfl
    have hlen : l.length ≤ 1000 := by
     have h1 := hp.length_eq
     rw [List.length_append] at h1
     have h2 : (clkC now m).length ≤ m.length := by rw [clkC, List.length_map]; exact List.length_filter_le _ _
     omega
    refine wl_app clk_lit fr rfl rfl rfl rfl rfl rfl rfl rfl hy (by simp; omega) S ?_
    intro w A2 c2 S
    have S : Sat w0 _ (ownA .u32 31 A2 c2 (l ++ [p.1]) :: iterA .u32 (Value.int .i64) g r m (l1 ++ l2) (some p) :: stA 131 b [.int .i64 now, .map (some g)] :: R) := S.mask [true, false]
    intro a fr
    refine wl_run oC_ 1 rfl fr fun a fr => ?_
    refine wpList_nil ?_
    refine blk_n ?_
    with_reducible refine then_n ?_
    refine ⟨A2, c2, l ++ [p.1], l1 ++ l2, some p, by simp at hq ⊢; omega, ?_, fr.sub ⟨rfl, rfl, rfl, rfl, trivial⟩, S⟩
    refine List.Perm.trans ?_ hp
    simp only [clkC, List.filter_append, List.map_append, List.filter_cons, hb, if_true, List.map_cons, List.append_assoc]
    refine List.Perm.append_left l ?_
    exact (List.perm_middle (l₁ := (l1.filter (clkH now)).map (·.1))).symm
end Go.Proofs.YticnjkdaccacaaaGreat.Sx
end
section
namespace Go.Proofs.YticnjkdaccacaaaGreat.Sx
open Go Go.RowKit Base Oq
def sLt (x y : ByteArray) : Bool := Op.bytesLess x.toList y.toList
def sLe (x y : ByteArray) : Bool := sLt x y || x.toList == y.toList
def sMax (x y : ByteArray) : ByteArray := if !sLt x y then x else y
theorem decode_le (s : ByteArray) (pos : Nat) : (Utf8.decode s pos).1 ≤ 2097152 := by
 have hb : (s.get! (pos + 0)).toNat < 256 := UInt8.toNat_lt _
 have he : Utf8.runeError = 65533 := rfl
 unfold Utf8.decode
 dsimp only
 repeat' split
 all_goals (simp only [he]; omega)
theorem decode_big {s : ByteArray} {pos : Nat} (h : ¬ (s.get! pos).toNat < 128) : 128 ≤ (Utf8.decode s pos).1 := by
 have he : Utf8.runeError = 65533 := rfl
 have h : ¬ (s.get! (pos + 0)).toNat < 128 := h
 unfold Utf8.decode
 dsimp only
 repeat' split
 all_goals first
  | (simp only [he]; omega)
  | (simp_all; omega)
  | (simp_all)
theorem decode_small {s : ByteArray} {pos : Nat} (h : (s.get! pos).toNat < 128) : Utf8.decode s pos = ((s.get! pos).toNat, 1) := by
 have h : (s.get! (pos + 0)).toNat < 128 := h
 unfold Utf8.decode
 dsimp only
 split
 ·rfl
 ·contradiction
section
variable {P : Program} {T : Orc} {ops : Array Oper} {Q : Exit → Act → World → Prop} {Df : List Deferred} {N : Nat} {a : Act} {w w0 : World} {L : Env} {R : List Asn}
theorem bs (d : Nat) {b : Bool} {X : Prop} (fr : FrD Df N a L) (hd : L.lookup d = some (.bool b)) (ht : b = true → FrD Df N a ((d, .bool true) :: L) → X) (hf : b = false → FrD Df N a ((d, .bool false) :: L) → X) : X := by
 cases hb : b with
 | true => exact ht hb (fr.bool hd hb)
 | false => exact hf hb (fr.bool hd hb)
theorem wl_sle {o : Oper} {rest : List Oper} {t ty : TypeId} {x y : Operand} {d : Nat} {s u : ByteArray} (fr : FrD Df N a L) (hw : wantL ops L o = some true) (ho : o.op = .binOp .leq t x y ty) (hd : o.dst = some d) (hlt : Nat.blt d N = true) (hx : ev L x = some (.string s)) (hy : ev L y = some (.string u))
  (h : ∀ a', FrD Df N a' ((d, .bool (sLe s u)) :: L) → wpList P ops Q rest a' w) : wpList P ops Q (o :: rest) a w := by
 refine wl_val fr hw hd hlt (w' := w) ?_ rfl h
 unfold execOp
 simp only [ho, (fr.ev hx).1, (fr.ev hy).1]
 rfl
theorem wl_smax {o : Oper} {rest : List Oper} {x y : Operand} {ts : Array TypeId} {d : Nat} {s u : ByteArray} (fr : FrD Df N a L) (hw : wantL ops L o = some true) (ho : o.op = .call { callee := .builtin .max, args := #[x, y], argTypes := ts }) (hd : o.dst = some d) (hlt : Nat.blt d N = true) (hx : ev L x = some (.string s)) (hy : ev L y = some (.string u))
  (h : ∀ a', FrD Df N a' ((d, .string (sMax s u)) :: L) → wpList P ops Q rest a' w) : wpList P ops Q (o :: rest) a w := by
 refine wl_val fr hw hd hlt (w' := w) ?_ rfl h
 unfold execOp
 simp only [ho, resolve]
 rw [Sem.run_bind, Sem.run_pure, Result.andThen_ok]
 have e : (#[x, y] : Array Operand).map a.eval = #[Value.string s, .string u] := by simp [(fr.ev hx).1, (fr.ev hy).1]
 simp only [invoke, e]
 rfl
theorem wl_slen (hT : T.Ok P) {o : Oper} {rest : List Oper} {x : Operand} {t : TypeId} {d : Nat} {s : ByteArray} (fr : FrD Df N a L) (hw : wantL ops L o = some true) (ho : o.op = .call { callee := .builtin .len, args := #[x], argTypes := #[t] }) (hd : o.dst = some d) (hlt : Nat.blt d N = true) (hx : ev L x = some (.string s)) (ht : T.ty.lookup t = some .string) (hs : s.size ≤ maxLen)
  (h : ∀ a', FrD Df N a' ((d, .int .i64 (s.size : Int)) :: L) → wpList P ops Q rest a' w) : wpList P ops Q (o :: rest) a w := by
 refine wl_val fr hw hd hlt (w' := w) ?_ (vok_len hs) h
 unfold execOp
 simp only [ho, resolve]
 rw [Sem.run_bind, Sem.run_pure, Result.andThen_ok]
 have e : (#[x] : Array Operand).map a.eval = #[Value.string s] := by simp [(fr.ev hx).1]
 simp only [invoke, e]
 show (do pure (Next.value (← Builtin.len_ #[t] o.type #[.string s])) : Sem Next).run P w = _
 have e2 : (Builtin.len_ #[t] o.type #[Value.string s]).run P w = .ok (.int .i64 (s.size : Int)) w := by
  simp only [Builtin.len_, List.getElem?_toArray, List.getElem?_cons_zero]
  rw [Sem.run_bind, run_underlying (hT.und ht), Result.andThen_ok]
  rfl
 rw [Sem.run_bind, e2]; rfl
theorem wl_rangeS (hT : T.Ok P) {o : Oper} {rest : List Oper} {t : TypeId} {x : Operand} {d : Nat} {s : ByteArray} (fr : FrD Df N a L) (hw : wantL ops L o = some true) (hd : o.dst = some d) (hlt : Nat.blt d N = true) (ho : o.op = .range t x) (hx : ev L x = some (.string s)) (ht : T.ty.lookup t = some .string) (S : Sat w0 w R)
  (h : ∀ w' r, Sat w0 w' (objA (.stringIter s 0) r :: R) → ∀ a', FrD Df N a' ((d, .pointer (some ⟨r, 0, none⟩)) :: L) → wpList P ops Q rest a' w') : wpList P ops Q (o :: rest) a w := by
 refine wl_val (v := .pointer (some ⟨w.heap.size, 0, none⟩)) (w' := w.alloc (.stringIter s 0)) fr hw hd hlt ?_ rfl (h _ _ (S.addObj _))
 unfold execOp
 simp only [ho, (fr.ev hx).1]
 rw [Sem.run_bind, run_range_string w t s (hT.und ht)]
 rfl
theorem wl_nextS {o : Oper} {rest : List Oper} {x : Operand} {d r pos : Nat} {s : ByteArray} (fr : FrD Df N a L) (hw : wantL ops L o = some true) (hd : o.dst = some d) (hlt : Nat.blt d N = true) (ho : o.op = .next x true) (hx : ev L x = some (.pointer (some ⟨r, 0, none⟩))) (hs : s.size ≤ maxLen) (S : Sat w0 w (objA (.stringIter s pos) r :: R))
  (h0 : s.size ≤ pos → ∀ a', FrD Df N a' ((d, .tuple #[.bool false]) :: L) → wpList P ops Q rest a' w)
  (h1 : pos < s.size → ∀ w', Sat w0 w' (objA (.stringIter s (pos + (Utf8.decode s pos).2)) r :: R) → ∀ a', FrD Df N a' ((d, .tuple #[.bool true, .int .i64 (pos : Int), .int .i32 ((Utf8.decode s pos).1 : Int)]) :: L) → wpList P ops Q rest a' w') : wpList P ops Q (o :: rest) a w := by
 have hr := Sat.objAt S 0 rfl
 by_cases hp : pos < s.size
 ·refine wl_val (v := .tuple #[.bool true, .int .i64 (pos : Int), .int .i32 ((Utf8.decode s pos).1 : Int)]) (w' := w.putObj r (.stringIter s (pos + (Utf8.decode s pos).2))) fr hw hd hlt ?_ ?_ (h1 hp _ (S.putObj _))
  ·unfold execOp
   simp only [ho, (fr.ev hx).1]
   rw [Sem.run_bind]
   have e : (Instr.next (.pointer (some ⟨r, 0, none⟩)) true o.type).run P w = .ok (.tuple #[.bool true, .int .i64 (pos : Int), .int .i32 ((Utf8.decode s pos).1 : Int)]) (w.putObj r (.stringIter s (pos + (Utf8.decode s pos).2))) := by
    simp [Instr.next, getObj, setObj, Sem.run, hr, hp, goInt]
    rfl
   rw [e]; rfl
  ·show [Value.bool true, .int .i64 (pos : Int), .int .i32 ((Utf8.decode s pos).1 : Int)].all vokC = true
   have e1 : vokC (.int .i64 (pos : Int)) = true := vok_len (Nat.le_trans (Nat.le_of_lt hp) hs)
   have e2 : vokC (.int .i32 ((Utf8.decode s pos).1 : Int)) = true := by
    have hb := decode_le s pos
    have e2 : (Lit.int .i32 ((Utf8.decode s pos).1 : Int)).wf = true := by
     rw [wf_int]
     have h1 : IntKind.i32.min = -2147483648 := by decide
     have h2 : IntKind.i32.max = 2147483647 := by decide
     omega
    exact e2
   simp only [List.all_cons, List.all_nil, e1, e2, Bool.and_true]
   rfl
 ·refine wl_val (v := .tuple #[.bool false]) (w' := w) fr hw hd hlt ?_ rfl (h0 (by omega))
  unfold execOp
  simp only [ho, (fr.ev hx).1]
  rw [Sem.run_bind]
  have e : (Instr.next (.pointer (some ⟨r, 0, none⟩)) true o.type).run P w = .ok (.tuple #[.bool false]) w := by
   simp [Instr.next, getObj, Sem.run, hr, hp]
  rw [e]; rfl
end
def keyI (c : Int) : Bool := (decide (c ≥ 97) && decide (c ≤ 122)) || (decide (c ≥ 48) && decide (c ≤ 57)) || c == 95
def byteI (s : ByteArray) (i : Nat) : Int := ((s.get! i).toNat : Int)
def allB (s : ByteArray) : Bool := (List.range s.size).all fun i => keyI (byteI s i)
def keyOk (s : ByteArray) : Bool := (!(s.toList == ByteArray.empty.toList)) && decide ((s.size : Int) ≤ 16) && allB s
def orcK : Orc := ⟨[(3, .int .i64), (4, .bool), (21, .int .i32), (9, .string)],
 [(3, 1), (4, 1), (21, 1), (9, 1)]⟩
theorem oK_ : orcK.Ok Tryz.prog := ⟨⟨Tryz.underlying3, Tryz.underlying4, Tryz.underlying21, Tryz.underlying9, trivial⟩, ⟨by kernel_rfl, by kernel_rfl, by kernel_rfl, by kernel_rfl, trivial⟩⟩
theorem enKey1 : Enters Tryz.prog 113 := fun _ _ => by kernel_rfl
theorem enKeyAll : Enters Tryz.prog 112 := fun _ _ => by kernel_rfl
theorem enKeyIn : Enters Tryz.prog 89 := fun _ _ => by kernel_rfl
theorem enKeyCheck : Enters Tryz.prog 88 := fun _ _ => by kernel_rfl
theorem key1_call {w : World} (c : Int) (hc : (Lit.int .i32 c).wf = true) : Calls Tryz.prog 113 #[.int .i32 c] w fun e w' => e = .returned (.bool (keyI c)) ∧ w' = w := by
 refine calls_start (N := 21) [.int .i32 c] Tryz.func113 rfl rfl rfl (vok_c hc rfl) fun a fr => ?_
 refine r_ rfl ?_
 repeat refine w_ oK_ rfl fr fun a fr => ?_
 refine er_ rfl rfl ?_
 repeat refine w_ oK_ rfl fr fun a fr => ?_
 refine bs 5 fr rfl (fun h1 fr => ?_) (fun h1 fr => ?_)
 ·repeat refine w_ oK_ rfl fr fun a fr => ?_
  refine bs 9 fr rfl (fun h2 fr => ?_) (fun h2 fr => ?_)
  ·repeat refine w_ oK_ rfl fr fun a fr => ?_
   first | refine e_ ?_ | refine wpList_nil ?_
   refine wp_ret ?_
   exact ret1 fr rfl rfl ⟨by simp only [keyI, h1, h2]; rfl, rfl⟩
  ·repeat refine w_ oK_ rfl fr fun a fr => ?_
   refine bs 12 fr rfl (fun h3 fr => ?_) (fun h3 fr => ?_)
   ·repeat refine w_ oK_ rfl fr fun a fr => ?_
    refine bs 17 fr rfl (fun h4 fr => ?_) (fun h4 fr => ?_)
    ·repeat refine w_ oK_ rfl fr fun a fr => ?_
     first | refine e_ ?_ | refine wpList_nil ?_
     refine wp_ret ?_
     exact ret1 fr rfl rfl ⟨by simp only [keyI, h1, h2, h3, h4]; rfl, rfl⟩
    ·repeat refine w_ oK_ rfl fr fun a fr => ?_
     first | refine e_ ?_ | refine wpList_nil ?_
     refine wp_ret ?_
     exact ret1 fr rfl rfl ⟨by simp only [keyI, h1, h2, h3, h4]; rfl, rfl⟩
   ·repeat refine w_ oK_ rfl fr fun a fr => ?_
    first | refine e_ ?_ | refine wpList_nil ?_
    refine wp_ret ?_
    exact ret1 fr rfl rfl ⟨by simp only [keyI, h1, h2, h3]; rfl, rfl⟩
 ·repeat refine w_ oK_ rfl fr fun a fr => ?_
  refine bs 12 fr rfl (fun h3 fr => ?_) (fun h3 fr => ?_)
  ·repeat refine w_ oK_ rfl fr fun a fr => ?_
   refine bs 17 fr rfl (fun h4 fr => ?_) (fun h4 fr => ?_)
   ·repeat refine w_ oK_ rfl fr fun a fr => ?_
    first | refine e_ ?_ | refine wpList_nil ?_
    refine wp_ret ?_
    exact ret1 fr rfl rfl ⟨by simp only [keyI, h1, h3, h4]; rfl, rfl⟩
   ·repeat refine w_ oK_ rfl fr fun a fr => ?_
    first | refine e_ ?_ | refine wpList_nil ?_
    refine wp_ret ?_
    exact ret1 fr rfl rfl ⟨by simp only [keyI, h1, h3, h4]; rfl, rfl⟩
  ·repeat refine w_ oK_ rfl fr fun a fr => ?_
   first | refine e_ ?_ | refine wpList_nil ?_
   refine wp_ret ?_
   exact ret1 fr rfl rfl ⟨by simp only [keyI, h1, h3]; rfl, rfl⟩
theorem keyI_small {c : Int} (h : keyI c = true) : c ≤ 122 := by
 unfold keyI at h
 simp only [Bool.or_eq_true, Bool.and_eq_true, decide_eq_true_eq, beq_iff_eq] at h
 omega
theorem key_rune {s : ByteArray} {pos : Nat} : (keyI ((Utf8.decode s pos).1 : Int) = true ↔ keyI (byteI s pos) = true) ∧ (keyI ((Utf8.decode s pos).1 : Int) = true → (Utf8.decode s pos).2 = 1) := by
 by_cases h : (s.get! pos).toNat < 128
 ·rw [decode_small h]
  exact ⟨Iff.rfl, fun _ => rfl⟩
 ·have h1 := decode_big h
  have n1 : ¬ keyI ((Utf8.decode s pos).1 : Int) = true := fun hk => by have := keyI_small hk; omega
  have n2 : ¬ keyI (byteI s pos) = true := fun hk => by have := keyI_small hk; unfold byteI at this; omega
  exact ⟨⟨fun hk => absurd hk n1, fun hk => absurd hk n2⟩, fun hk => absurd hk n1⟩
section
variable {w w0 : World} {R : List Asn}
theorem all_call {s : ByteArray} (hs : s.size ≤ maxLen) (S : Sat w0 w R) : Calls Tryz.prog 112 #[.string s, .func (.func 113) #[] #[]] w fun e w' => e = .returned (.bool (allB s)) ∧ Sat w0 w' R := by
 refine calls_start (N := 16) [.string s, .func (.func 113) #[] #[]] Tryz.func112 rfl rfl rfl rfl fun a fr => ?_
 refine r_ rfl ?_
 repeat refine w_ oK_ rfl fr fun a fr => ?_
 refine er_ rfl rfl ?_
 repeat refine w_ oK_ rfl fr fun a fr => ?_
 refine wl_rangeS oK_ fr rfl rfl rfl rfl rfl rfl S ?_
 intro w1 r S a fr
 refine eq_ rfl rfl ?_
 refine wp_block ?_
 refine cw_loop (fun q a w2 => ∃ pos : Nat, pos + q = s.size + 1 ∧ pos ≤ s.size ∧ (∀ i, i < pos → keyI (byteI s i) = true) ∧ Fr 16 a [(0, .string s), (1, .func (.func 113) #[] #[]), (8, .pointer (some ⟨r, 0, none⟩))] ∧ Sat w0 w2 (objA (.stringIter s pos) r :: R)) (s.size + 1)
  ⟨0, by omega, by omega, fun i hi => by omega, fr.sub ⟨rfl, rfl, rfl, trivial⟩, S⟩ ?_ ?_
 ·rintro a w2 ⟨pos, h1, h2, -⟩
  omega
 clear fr S
 rintro q a w2 ⟨pos, hq, hle, hall, fr, S⟩
 refine r_ rfl ?_
 refine wl_nextS fr rfl rfl rfl rfl rfl hs S ?_ ?_
 ·intro hp a fr
  repeat refine w_ oK_ rfl fr fun a fr => ?_
  refine eq_ rfl rfl ?_
  refine cw_f fr rfl ?_
  refine wp_exit ?_
  refine xr_ rfl rfl ?_
  repeat refine w_ oK_ rfl fr fun a fr => ?_
  first | refine e_ ?_ | refine wpList_nil ?_
  refine wp_ret ?_
  refine ret1 fr rfl rfl ⟨?_, S.tl⟩
  have : allB s = true := by
   unfold allB
   rw [List.all_eq_true]
   intro i hi
   rw [List.mem_range] at hi
   exact hall i (by omega)
  rw [this]
 ·intro hp w3 S a fr
  have fr := fr.spell (d := 9) rfl rfl
  repeat refine w_ oK_ rfl fr fun a fr => ?_
  refine eq_ rfl rfl ?_
  refine cw_t fr rfl ?_
  refine wp_skip ?_
  refine q_ rfl ?_
  refine wp_block ?_
  refine r_ rfl ?_
  repeat refine w_ oK_ rfl fr fun a fr => ?_
  refine er_ rfl rfl ?_
  repeat refine w_ oK_ rfl fr fun a fr => ?_
  refine wl_callv fr rfl rfl rfl rfl rfl rfl rfl enKey1 (key1_call _ (fr.int (d := 13) rfl)) ?_
  rintro _ w4 ⟨rfl, rfl⟩
  refine ⟨_, rfl, rfl, fun a fr => ?_⟩
  repeat refine w_ oK_ rfl fr fun a fr => ?_
  first | refine e_ ?_ | refine wpList_nil ?_
  cases hk : keyI ((Utf8.decode s pos).1 : Int) with
  | false =>
   have fr := fr.bool (d := 15) rfl (show (!keyI ((Utf8.decode s pos).1 : Int)) = true by rw [hk]; rfl)
   refine q_ rfl ?_
   refine cw_t fr rfl ?_
   refine r_ rfl ?_
   repeat refine w_ oK_ rfl fr fun a fr => ?_
   first | refine e_ ?_ | refine wpList_nil ?_
   refine wp_ret ?_
   try simp only [Exit.then, Exit.inBlock]
   refine ret1 fr rfl rfl ⟨?_, S.tl⟩
   have : allB s = false := by
    unfold allB
    rw [List.all_eq_false]
    refine ⟨pos, List.mem_range.2 hp, fun h => ?_⟩
    rw [key_rune.1.2 h] at hk
    cases hk
   rw [this]
  | true =>
   have fr := fr.bool (d := 15) rfl (show (!keyI ((Utf8.decode s pos).1 : Int)) = false by rw [hk]; rfl)
   refine q_ rfl ?_
   refine cw_f fr rfl ?_
   refine wp_skip ?_
   refine blk_n ?_
   repeat with_reducible refine then_n ?_
   rw [key_rune.2 hk] at S
   refine ⟨pos + 1, by omega, by omega, fun i hi => ?_, fr.sub ⟨rfl, rfl, rfl, trivial⟩, S⟩
   by_cases he : i = pos
   ·rw [he]; exact key_rune.1.1 hk
   ·exact hall i (by omega)
theorem keycheck_call {s : ByteArray} (hs : s.size ≤ maxLen) (S : Sat w0 w R) : Calls Tryz.prog 88 #[.string s] w fun e w' => e = .returned (.bool (keyOk s)) ∧ Sat w0 w' R := by
 refine calls_start (N := 14) [.string s] Tryz.func88 rfl rfl rfl rfl fun a fr => ?_
 refine r_ rfl ?_
 repeat refine w_ oK_ rfl fr fun a fr => ?_
 refine er_ rfl rfl ?_
 repeat refine w_ oK_ rfl fr fun a fr => ?_
 refine bs 5 fr rfl (fun h1 fr => ?_) (fun h1 fr => ?_)
 ·repeat refine w_ oK_ rfl fr fun a fr => ?_
  refine wl_slen oK_ fr rfl rfl rfl rfl rfl rfl hs fun a fr => ?_
  repeat refine w_ oK_ rfl fr fun a fr => ?_
  refine bs 10 fr rfl (fun h2 fr => ?_) (fun h2 fr => ?_)
  ·repeat refine w_ oK_ rfl fr fun a fr => ?_
   refine wl_call fr rfl rfl rfl rfl enKeyAll (all_call hs S) ?_
   rintro _ w1 ⟨rfl, S⟩
   refine ⟨_, rfl, rfl, fun a fr => ?_⟩
   repeat refine w_ oK_ rfl fr fun a fr => ?_
   first | refine e_ ?_ | refine wpList_nil ?_
   refine wp_ret ?_
   refine ret1 fr rfl rfl ⟨?_, S⟩
   unfold keyOk
   rw [show (!s.toList == ByteArray.empty.toList) = true from h1, h2]
   rfl
  ·repeat refine w_ oK_ rfl fr fun a fr => ?_
   first | refine e_ ?_ | refine wpList_nil ?_
   refine wp_ret ?_
   refine ret1 fr rfl rfl ⟨?_, S⟩
   unfold keyOk
   rw [show (!s.toList == ByteArray.empty.toList) = true from h1, h2]
   rfl
 ·repeat refine w_ oK_ rfl fr fun a fr => ?_
  first | refine e_ ?_ | refine wpList_nil ?_
  refine wp_ret ?_
  refine ret1 fr rfl rfl ⟨?_, S⟩
  unfold keyOk
  rw [show (!s.toList == ByteArray.empty.toList) = false from h1]
  rfl
def inS (k f t : ByteArray) : Bool := sLe f k && sLe k t
theorem in_call {k f t : ByteArray} : Calls Tryz.prog 89 #[.string k, .string f, .string t] w fun e w' => e = .returned (.bool (inS k f t)) ∧ w' = w := by
 refine calls_start (N := 15) [.string k, .string f, .string t] Tryz.func89 rfl rfl rfl rfl fun a fr => ?_
 refine r_ rfl ?_
 repeat refine w_ oK_ rfl fr fun a fr => ?_
 refine er_ rfl rfl ?_
 repeat refine w_ oK_ rfl fr fun a fr => ?_
 refine wl_sle fr rfl rfl rfl rfl rfl rfl fun a fr => ?_
 repeat refine w_ oK_ rfl fr fun a fr => ?_
 refine bs 10 fr rfl (fun h1 fr => ?_) (fun h1 fr => ?_)
 ·repeat refine w_ oK_ rfl fr fun a fr => ?_
  refine wl_sle fr rfl rfl rfl rfl rfl rfl fun a fr => ?_
  repeat refine w_ oK_ rfl fr fun a fr => ?_
  first | refine e_ ?_ | refine wpList_nil ?_
  refine wp_ret ?_
  exact ret1 fr rfl rfl ⟨by unfold inS; rw [h1]; rfl, rfl⟩
 ·repeat refine w_ oK_ rfl fr fun a fr => ?_
  first | refine e_ ?_ | refine wpList_nil ?_
  refine wp_ret ?_
  exact ret1 fr rfl rfl ⟨by unfold inS; rw [h1]; rfl, rfl⟩
end
end Go.Proofs.YticnjkdaccacaaaGreat.Sx
end
