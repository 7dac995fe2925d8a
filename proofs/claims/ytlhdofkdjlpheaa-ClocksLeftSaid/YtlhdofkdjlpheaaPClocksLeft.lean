/- The plain law of ClocksLeft. -/
import Derived.Test.YtlhdofkdjlpheaaDClocksLeft
import Derived.Test.YtlhdofkdjlpheaaCl
import Derived.IntWalk
namespace Go.Proofs.Ytlhdofkdjlpheaa.Pl
open Go Go.RowKit Sx Base Own

theorem set_is {now n : Int} (m : List (Int × Int)) (x : Int) (h0 : 0 ≤ now ∧ now ≤ 10000000000) (h1 : 1 ≤ n ∧ n ≤ 1073741824) : Set.f now m x n = some (0, now, upM m x (now + n)) := by
  unfold Set.f there.f
  rw [Option.bind_some]
  rw [iff_ (by rfl), iff_ (df (by omega)), iff_ (df (by omega)), lt_is rfl, w64 (by simp only; omega) (by simp only; omega)]
theorem set_bad {now n : Int} (m : List (Int × Int)) (x : Int) (h1 : n < 1 ∨ n > 1073741824) : Set.f now m x n = some (1, now, m) := by
  unfold Set.f there.f
  rw [Option.bind_some, iff_ (by rfl)]
  by_cases h : n < 1
  · rw [ift (dt h)]
  · rw [iff_ (df h), ift (dt (by omega))]
theorem left_no {now : Int} {m : List (Int × Int)} {x : Int} (h : lkM m x = none) : Left.f now m x = some (0, false, now, m) := by
  unfold Left.f there.f
  rw [Option.bind_some, iff_ (by rfl), lt_is rfl, lt_is rfl]
  simp only [h]
  rfl
theorem left_yes {now : Int} {m : List (Int × Int)} {x v : Int} (h : lkM m x = some v) (h0 : 0 ≤ now ∧ now ≤ 100000000000) (h1 : 0 ≤ v ∧ v ≤ 100000000000) : Left.f now m x = some (v - now, true, now, m) := by
  unfold Left.f there.f
  rw [Option.bind_some, iff_ (by rfl), lt_is rfl, lt_is rfl]
  simp only [h]
  rw [iff_ (by rfl), lt_is rfl]
  simp only [Option.getD_some]
  rw [w64 (by omega) (by omega)]
theorem clear_no {now : Int} {m : List (Int × Int)} {x : Int} (h : lkM m x = none) : Clear.f now m x = some (6, now, m) := by
  unfold Clear.f there.f
  rw [Option.bind_some, iff_ (by rfl), lt_is rfl]
  simp only [h]
  rfl
theorem clear_yes {now : Int} {m : List (Int × Int)} {x v : Int} (h : lkM m x = some v) : Clear.f now m x = some (0, now, delM m x) := by
  unfold Clear.f there.f
  rw [Option.bind_some, iff_ (by rfl), lt_is rfl]
  simp only [h]
  rw [iff_ (by rfl), lt_is rfl]
theorem tick_l1 (now : Int) (l : List Int) (hl : l.length ≤ 1000) : ∀ (d k i : Nat) (m : List (Int × Int)), i + d = l.length → d < k → Tick.l1 k l now m (i : Int) = some (l, now, (l.drop i).foldl delM m) := by
  intro d
  induction d with
  | zero =>
    intro k i m hi hk
    obtain ⟨k, rfl⟩ : ∃ q, k = q + 1 := ⟨k - 1, by omega⟩
    rw [Tick.l1, iff_ (df (by omega)), List.drop_of_length_le (by omega)]
    rfl
  | succ d ih =>
    intro k i m hi hk
    obtain ⟨k, rfl⟩ : ∃ q, k = q + 1 := ⟨k - 1, by omega⟩
    rw [Tick.l1, ift (dt (by omega)), if_pos (by omega), lt_is rfl, lt_is rfl, w64s (by omega), ih k (i + 1) _ (by omega) (by omega), Int.toNat_natCast]
    rw [List.drop_eq_getElem_cons (by omega : i < l.length), List.foldl_cons, List.getD_eq_getElem?_getD, List.getElem?_eq_getElem (by omega)]
    rfl
theorem tick_is {L : Nat} {m : List (Int × Int)} {f : Int → Option Int} (h : Is L m f) (hL : L ≤ 1000) {now : Int} (h0 : 0 ≤ now ∧ now ≤ 10000000000) {k : Nat} (hk : L < k) :
    ∃ l m', Tick.f k now m = some (l, now + 1, m') ∧ Is L m' (fun y => if f y = some (now + 1) then none else f y) ∧ (∀ x, x ∈ l ↔ f x = some (now + 1)) ∧ l.Pairwise (· < ·) ∧ l.length ≤ L ∧ m'.length + l.length = m.length := by
  have hlen := h.len
  obtain ⟨d1, d2, d3⟩ := h.dues (now := now + 1) ⟨by omega, by omega⟩
  refine ⟨Clk.due (now + 1) m, (Clk.due (now + 1) m).foldl delM m, ?_, (h.dels _).ext (fun x => ?_), d1, d2, d3, dels_len _ h (d2.imp (fun hab e => by omega)) (fun x hx e => ?_)⟩
  · unfold Tick.f there.f
    rw [Option.bind_some, iff_ (by rfl), lt_is rfl]
    simp only
    rw [if_pos (by omega), lt_is rfl, w64 (by omega) (by omega)]
    exact tick_l1 _ _ (by omega) (Clk.due (now + 1) m).length k 0 m (by omega) (by omega)
  · by_cases hx : f x = some (now + 1)
    · rw [if_pos hx, if_pos ((d1 x).2 hx)]
    · rw [if_neg hx, if_neg (fun q => hx ((d1 x).1 q))]
  · rw [(d1 x).1 hx] at e; cases e
/-- The same, of those who are due when it is known who they are. -/
theorem tick_eq {L : Nat} {m : List (Int × Int)} {f : Int → Option Int} (h : Is L m f) (hL : L ≤ 1000) {now : Int} (h0 : 0 ≤ now ∧ now ≤ 10000000000) {k : Nat} (hk : L < k) {l : List Int} (hs : l.Pairwise (· < ·)) (hl : ∀ x, x ∈ l ↔ f x = some (now + 1)) :
    ∃ m', Tick.f k now m = some (l, now + 1, m') ∧ Is L m' (fun y => if f y = some (now + 1) then none else f y) ∧ l.length ≤ L := by
  obtain ⟨l', m', h1, h2, h3, h4, h5, -⟩ := tick_is h hL h0 hk
  have : l' = l := sorted_unique h4 hs (fun x => by rw [h3, hl])
  subst this
  exact ⟨m', h1, h2, h5⟩
theorem tick_none {L : Nat} {m : List (Int × Int)} {f : Int → Option Int} (h : Is L m f) (hL : L ≤ 1000) {now : Int} (h0 : 0 ≤ now ∧ now ≤ 10000000000) {k : Nat} (hk : L < k) (hf : ∀ x, f x ≠ some (now + 1)) :
    ∃ m', Tick.f k now m = some ([], now + 1, m') ∧ Is L m' f := by
  obtain ⟨m', h1, h2, -⟩ := tick_eq h hL h0 hk (l := []) List.Pairwise.nil (fun x => by simp [hf x])
  exact ⟨m', h1, h2.ext (fun x => by rw [if_neg (hf x)])⟩
theorem same_l1 (l : List Int) (hl : l.length ≤ 100000) : ∀ (d k i : Nat), i + d = l.length → d < k → SameIds.l1 k l l (i : Int) = some true := by
  intro d
  induction d with
  | zero =>
    intro k i hi hk
    obtain ⟨k, rfl⟩ : ∃ q, k = q + 1 := ⟨k - 1, by omega⟩
    rw [SameIds.l1, iff_ (df (by omega))]
  | succ d ih =>
    intro k i hi hk
    obtain ⟨k, rfl⟩ : ∃ q, k = q + 1 := ⟨k - 1, by omega⟩
    rw [SameIds.l1, ift (dt (by omega)), if_pos (by omega), if_pos (by omega), iff_ (bne_no rfl), w64s (by omega)]
    exact ih k (i + 1) (by omega) (by omega)
theorem same_is (l : List Int) (hl : l.length ≤ 100000) {k : Nat} (hk : l.length < k) : SameIds.f k l l = some true := by
  unfold SameIds.f
  rw [iff_ (bne_no rfl)]
  exact same_l1 l hl l.length k 0 (by omega) hk
theorem alive_is {k : Nat} (hk : 10 < k) : alive.f k = some true := by
  unfold alive.f
  rw [set_is _ _ (by decide) (by decide), Option.bind_some, iff_ (by rfl), set_is _ _ (by decide) (by decide), Option.bind_some, iff_ (by rfl), set_is _ _ (by decide) (by decide), Option.bind_some, iff_ (by rfl)]
  have h1 := ((Is.nil.up 7 (0 + 2) (by decide)).up 5 (0 + 2) (by decide)).up 6 (0 + 1) (by decide)
  obtain ⟨m1, e1, h2, -⟩ := tick_eq h1 (by decide) (now := 0) (by decide) (k := k) (by omega) (l := [6]) (by simp) (fun x => by
    simp only [List.mem_singleton]
    by_cases a6 : x = 6 <;> by_cases a5 : x = 5 <;> by_cases a7 : x = 7 <;> simp [a6, a5, a7])
  simp only
  rw [e1, Option.bind_some]
  have e2 : lkM m1 7 = some 2 := by rw [h2.lk]; decide
  simp only
  rw [left_yes e2 (by decide) (by decide), Option.bind_some]
  obtain ⟨m2, e3, h3, -⟩ := tick_eq h2 (by decide) (now := 0 + 1) (by decide) (k := k) (by omega) (l := [5, 7]) (by simp) (fun x => by
    simp only [List.mem_cons, List.not_mem_nil, or_false]
    by_cases a6 : x = 6 <;> by_cases a5 : x = 5 <;> by_cases a7 : x = 7 <;> simp [a6, a5, a7])
  simp only
  rw [e3, Option.bind_some]
  have e4 : lkM m2 7 = none := by rw [h3.lk]; decide
  simp only
  rw [left_no e4, Option.bind_some, same_is [6] (by decide) (by simp; omega), Option.bind_some, iff_ (by rfl)]
  simp only
  rw [iff_ (by decide), iff_ (by decide), same_is [5, 7] (by decide) (by simp; omega), Option.bind_some, iff_ (by rfl), iff_ (by rfl)]
  rw [set_is _ _ (by decide) (by decide), Option.bind_some, iff_ (by rfl), set_is _ _ (by simp only; decide) (by decide), Option.bind_some, iff_ (by rfl)]
  have h4 := (h3.up 1 (0 + 1 + 1 + 3) (by decide)).up 1 (0 + 1 + 1 + 1) (by decide)
  obtain ⟨m3, e5, h5, -⟩ := tick_eq h4 (by decide) (now := 0 + 1 + 1) (by decide) (k := k) (by omega) (l := [1]) (by simp) (fun x => by
    simp only [List.mem_singleton]
    by_cases a1 : x = 1 <;> by_cases a6 : x = 6 <;> by_cases a5 : x = 5 <;> by_cases a7 : x = 7 <;> simp [a1, a6, a5, a7])
  simp only
  rw [e5, Option.bind_some, same_is [1] (by decide) (by simp; omega), Option.bind_some, if_pos rfl]
  have e6 : lkM m3 1 = none := by rw [h5.lk]; decide
  simp only
  rw [clear_no e6, Option.bind_some, if_pos (by rfl), set_bad _ _ (by decide), Option.bind_some, if_pos (by rfl), set_bad _ _ (by decide), Option.bind_some]
  rfl

def leftF (a0 n : Int) (t : Int) : Int → Option Int := fun y => if y = IntKind.wrap .u32 (a0 + 1) then some 1000 else if y = a0 then (if t < n then some n else none) else none
theorem next_ne (a0 : Int) (h : 0 ≤ a0 ∧ a0 ≤ 4294967295) : IntKind.wrap .u32 (a0 + 1) ≠ a0 := by
  rw [IntKind.wrap_u32]
  omega
theorem leftF_due (a0 n t : Int) (hne : IntKind.wrap .u32 (a0 + 1) ≠ a0) (ht : t + 1 < 1000) (x : Int) : x ∈ (if t + 1 = n then [a0] else []) ↔ leftF a0 n t x = some (t + 1) := by
  unfold leftF
  by_cases hx : x = IntKind.wrap .u32 (a0 + 1)
  · rw [if_pos hx]
    constructor
    · intro hm
      split at hm
      · exact absurd (by simpa using hm) (fun e : x = a0 => hne (by rw [← hx, e]))
      · cases hm
    · intro e; injection e with e; omega
  · rw [if_neg hx]
    by_cases hx2 : x = a0
    · rw [if_pos hx2]
      by_cases h5 : t + 1 = n
      · rw [if_pos h5, if_pos (show t < n by omega), hx2, h5]; simp
      · rw [if_neg h5]
        constructor
        · intro hm; cases hm
        · intro e
          split at e
          · injection e with e; omega
          · cases e
    · rw [if_neg hx2]
      constructor
      · intro hm
        split at hm
        · exact absurd (by simpa using hm) hx2
        · cases hm
      · intro e; cases e
theorem leftF_next (a0 n t : Int) (hne : IntKind.wrap .u32 (a0 + 1) ≠ a0) (ht : t + 1 < 1000) (x : Int) : (if leftF a0 n t x = some (t + 1) then none else leftF a0 n t x) = leftF a0 n (t + 1) x := by
  by_cases hd : leftF a0 n t x = some (t + 1)
  · rw [if_pos hd]
    have := (leftF_due a0 n t hne ht x).2 hd
    split at this
    · rename_i h5
      have hx : x = a0 := by simpa using this
      unfold leftF
      rw [if_neg (fun e => hne (by rw [← e, hx])), if_pos hx, if_neg (show ¬ t + 1 < n by omega)]
    · cases this
  · rw [if_neg hd]
    unfold leftF at hd ⊢
    by_cases hx : x = IntKind.wrap .u32 (a0 + 1)
    · rw [if_pos hx, if_pos hx]
    · rw [if_neg hx] at hd ⊢
      rw [if_neg hx]
      by_cases hx2 : x = a0
      · rw [if_pos hx2] at hd ⊢
        rw [if_pos hx2]
        by_cases h5 : t < n
        · rw [if_pos h5] at hd ⊢
          have : n ≠ t + 1 := fun e => hd (by rw [e])
          rw [if_pos (show t + 1 < n by omega)]
        · rw [if_neg h5, if_neg (show ¬ t + 1 < n by omega)]
      · rw [if_neg hx2, if_neg hx2]
theorem next2_ne (a0 : Int) (h : 0 ≤ a0 ∧ a0 ≤ 4294967295) : IntKind.wrap .u32 (a0 + 2) ≠ a0 ∧ IntKind.wrap .u32 (a0 + 2) ≠ IntKind.wrap .u32 (a0 + 1) := by
  rw [IntKind.wrap_u32, IntKind.wrap_u32]
  omega
theorem left_j3 {L : Nat} (a0 now : Int) {m : List (Int × Int)} {f : Int → Option Int} (h : Is L m f) (h0 : 0 ≤ now ∧ now ≤ 10000) (hf : f (IntKind.wrap .u32 (a0 + 1)) = some 1000) {k : Nat} (hk : 10 < k) : ClocksLeft.j3 k a0 now m = some true := by
  unfold ClocksLeft.j3
  rw [left_yes (v := 1000) (by rw [h.lk, hf]) (by omega) (by omega), Option.bind_some, alive_is hk, Option.bind_some, if_pos rfl]
theorem left_l2 (a0 : Int) (b0 : 0 ≤ a0 ∧ a0 ≤ 4294967295) (now0 : Int) (h0 : 0 ≤ now0 ∧ now0 ≤ 255) : ∀ (d k : Nat) (t : Int) (m : List (Int × Int)), t + d = 6 → 1 ≤ t → d + 20 < k → Is 4 m (leftF a0 (now0 + 5) (now0 + t - 1)) → ClocksLeft.l2 k a0 (now0 + t - 1) m t = some true := by
  intro d
  induction d with
  | zero =>
    intro k t m ht h1 hk h
    obtain ⟨k, rfl⟩ : ∃ q, k = q + 1 := ⟨k - 1, by omega⟩
    rw [ClocksLeft.l2, iff_ (df (by omega))]
    exact left_j3 a0 _ h ⟨by omega, by omega⟩ (by unfold leftF; rw [if_pos rfl]) (by omega)
  | succ d ih =>
    intro k t m ht h1 hk h
    obtain ⟨k, rfl⟩ : ∃ q, k = q + 1 := ⟨k - 1, by omega⟩
    have hne := next_ne a0 b0
    obtain ⟨m', e1, e2, -⟩ := tick_eq h (by decide) (now := now0 + t - 1) ⟨by omega, by omega⟩ (k := k) (by omega) (l := if now0 + t - 1 + 1 = now0 + 5 then [a0] else []) (by split <;> simp) (leftF_due a0 _ _ hne (by omega))
    rw [ClocksLeft.l2, ift (dt (by omega)), e1, Option.bind_some]
    simp only
    have h5 : (now0 + t - 1 + 1 = now0 + 5) ↔ t = 5 := by omega
    rw [iff_ (by by_cases q : t = 5 <;> simp [h5, q]), w64 (by omega) (by omega)]
    have := ih k (t + 1) m' (by omega) (by omega) (by omega)
    rw [show now0 + (t + 1) - 1 = now0 + t - 1 + 1 by omega] at this
    exact this (e2.ext (leftF_next a0 _ _ hne (by omega)))
theorem left_l1 (a0 : Int) (b0 : 0 ≤ a0 ∧ a0 ≤ 4294967295) (l1 : List Int) (hl : l1.length = 2) (n : Int) (hn : 1 ≤ n ∧ n ≤ 256) (a2 : Int) (b2 : 0 ≤ a2 ∧ a2 ≤ 255) (g : Int) (hg : l1.getD 1 0 = g) (bg : 0 ≤ g ∧ g ≤ 255) :
    ∀ (d k : Nat) (t : Int) (m : List (Int × Int)), t + d = g + 1 → 1 ≤ t → d + 40 < k → Is 2 m (leftF a0 n (t - 1)) → ClocksLeft.l1 k l1 n a0 a2 (t - 1) m t = some true := by
  have hne := next_ne a0 b0
  have hne2 := next2_ne a0 b0
  intro d
  induction d with
  | zero =>
    intro k t m ht h1 hk h
    obtain ⟨k, rfl⟩ : ∃ q, k = q + 1 := ⟨k - 1, by omega⟩
    obtain rfl : t = g + 1 := by omega
    have e0 : g + 1 - 1 = g := by omega
    rw [e0] at h ⊢
    have hl1 : leftF a0 n g (IntKind.wrap .u32 (a0 + 1)) = some 1000 := by unfold leftF; rw [if_pos rfl]
    rw [ClocksLeft.l1, if_pos (by omega), show Int.toNat 1 = 1 from rfl, hg, w64 (x := g) (by omega) (by omega), iff_ (df (by omega)), if_pos (by omega), lt_is rfl, tm (by omega)]
    by_cases c0 : a2 % 3 = 0
    · rw [ift (beq_yes c0)]
      by_cases hgn : g < n
      · have e1 : lkM m a0 = some n := by rw [h.lk]; unfold leftF; rw [if_neg (fun e => hne e.symm), if_pos rfl, if_pos hgn]
        have hd := h.del a0
        have e2 : lkM (delM m a0) a0 = none := by rw [hd.lk, if_pos rfl]
        rw [clear_yes e1, Option.bind_some]
        simp only
        rw [left_no e2, Option.bind_some, iff_ (by rw [dt hgn]; rfl), iff_ (by rfl), iff_ (by rfl)]
        exact left_j3 a0 g hd ⟨by omega, by omega⟩ (by rw [if_neg hne, hl1]) (by omega)
      · have e1 : lkM m a0 = none := by rw [h.lk]; unfold leftF; rw [if_neg (fun e => hne e.symm), if_pos rfl, if_neg hgn]
        rw [clear_no e1, Option.bind_some]
        simp only
        rw [left_no e1, Option.bind_some, iff_ (by rw [df hgn]; rfl), iff_ (by rfl), if_pos (by rfl), iff_ (by rfl)]
        exact left_j3 a0 g h ⟨by omega, by omega⟩ hl1 (by omega)
    · rw [iff_ (beq_no c0)]
      by_cases c1 : a2 % 3 = 1
      · have e1 : lkM m (IntKind.wrap .u32 (a0 + 2)) = none := by rw [h.lk]; unfold leftF; rw [if_neg hne2.2, if_neg hne2.1]
        rw [ift (beq_yes c1), left_no e1, Option.bind_some]
        simp only
        rw [set_is _ _ (by omega) (by decide), Option.bind_some, iff_ (by rfl), iff_ (by rfl), iff_ (by rfl)]
        have := left_l2 a0 b0 g (by omega) 5 k 1 (upM m a0 (g + 5)) (by omega) (by omega) (by omega)
        rw [show g + 1 - 1 = g by omega] at this
        refine this (((h.up a0 (g + 5) (by omega)).more (by omega)).ext fun x => ?_)
        unfold leftF
        by_cases hx : x = a0
        · rw [if_pos hx, if_neg (fun e => hne (by rw [← e, hx])), if_pos hx, if_pos (by omega)]
        · rw [if_neg hx, if_neg hx, if_neg hx]
      · rw [iff_ (beq_no c1)]
        exact left_j3 a0 g h ⟨by omega, by omega⟩ hl1 (by omega)
  | succ d ih =>
    intro k t m ht h1 hk h
    obtain ⟨k, rfl⟩ : ∃ q, k = q + 1 := ⟨k - 1, by omega⟩
    obtain ⟨m', e1, e2, -⟩ := tick_eq h (by decide) (now := t - 1) ⟨by omega, by omega⟩ (k := k) (by omega) (l := if t - 1 + 1 = n then [a0] else []) (by split <;> simp) (leftF_due a0 _ _ hne (by omega))
    have e3 : Is 2 m' (leftF a0 n t) := e2.ext fun x => by rw [leftF_next a0 n (t - 1) hne (by omega), show t - 1 + 1 = t by omega]
    have et : t - 1 + 1 = t := by omega
    rw [et] at e1
    have hnext := ih k (t + 1) m' (by omega) (by omega) (by omega) (by rw [show t + 1 - 1 = t by omega]; exact e3)
    rw [show t + 1 - 1 = t by omega] at hnext
    have hj : ∀ l, ClocksLeft.j2 (ClocksLeft.l1 k l1 n a0 a2) (l, t, m') a0 t n = some true := by
      intro l
      unfold ClocksLeft.j2 ClocksLeft.j1
      simp only
      by_cases htn : t < n
      · rw [left_yes (v := n) (by rw [e3.lk]; unfold leftF; rw [if_neg (fun e => hne e.symm), if_pos rfl, if_pos htn]) (by omega) (by omega), Option.bind_some, iff_ (by rw [dt htn]; rfl), if_pos (by rfl), w64 (by omega) (by omega), iff_ (bne_no rfl), iff_ (by rfl), w64 (by omega) (by omega)]
        exact hnext
      · rw [left_no (by rw [e3.lk]; unfold leftF; rw [if_neg (fun e => hne e.symm), if_pos rfl, if_neg htn]), Option.bind_some, iff_ (by rw [df htn]; rfl), iff_ (by rfl), if_pos (by rfl), iff_ (by rfl), w64 (by omega) (by omega)]
        exact hnext
    rw [ClocksLeft.l1, if_pos (by omega), show Int.toNat 1 = 1 from rfl, hg, w64 (x := g) (by omega) (by omega), ift (dt (by omega)), e1, Option.bind_some]
    by_cases htn : t = n
    · rw [if_pos htn]
      simp only
      rw [iff_ (by simp [htn]), iff_ (by rfl), if_pos (by rfl), if_pos (by simp), iff_ (by simp)]
      exact hj _
    · rw [if_neg htn]
      simp only
      rw [iff_ (by simp [htn]), iff_ (by rfl), iff_ (by rfl)]
      exact hj _
theorem ClocksLeft_pure (a0 : Int) (l1 : List Int) (a2 : Int) (v0 : (Lit.int .u32 a0).wf = true) (n1 : l1.length = 2) (v1 : ∀ n ∈ l1, (Lit.int .u8 n).wf = true) (v2 : (Lit.int .u8 a2).wf = true) : ∃ k, ClocksLeft.f k a0 l1 a2 = some true := by
  refine ⟨1000, ?_⟩
  have b0 := wfu32 v0
  have b2 := wfu8 v2
  have c0 := wf8 v1 (i := 0) (by omega)
  have c1 := wf8 v1 (i := 1) (by omega)
  have hne := next_ne a0 b0
  unfold ClocksLeft.f
  rw [if_pos (by omega), show Int.toNat 0 = 0 from rfl, w64 (x := l1.getD 0 0) (by omega) (by omega), w64 (by omega) (by omega), lt_is rfl, set_is _ _ (by decide) (by omega), Option.bind_some, iff_ (by rfl)]
  simp only
  rw [set_is _ _ (by decide) (by omega), Option.bind_some, iff_ (by rfl)]
  simp only
  refine left_l1 a0 b0 l1 n1 (1 + l1.getD 0 0) (by omega) a2 b2 _ rfl c1 (l1.getD 1 0).toNat 1000 1 _ (by omega) (by omega) (by omega) (((Is.nil.up a0 (0 + (1 + l1.getD 0 0)) (by omega)).up _ (0 + 1000) (by omega)).ext fun x => ?_)
  unfold leftF
  by_cases hx : x = IntKind.wrap .u32 (a0 + 1)
  · rw [if_pos hx, if_pos hx]; rfl
  · rw [if_neg hx, if_neg hx]
    by_cases hx2 : x = a0
    · rw [if_pos hx2, if_pos hx2, if_pos (by omega)]; congr 1; omega
    · rw [if_neg hx2, if_neg hx2]
end Go.Proofs.Ytlhdofkdjlpheaa.Pl
