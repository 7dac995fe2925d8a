/- The plain law of ClocksShift. -/
import Derived.Test.YtlhdofkdjlpheaaDClocksShift
import Derived.Test.YtlhdofkdjlpheaaCl
import Derived.IntWalk
namespace Go.Proofs.Ytlhdofkdjlpheaa.Pl
open Go Go.RowKit Sx Base Own

theorem set_is {now n : Int} (m : List (Int × Int)) (x : Int) (h0 : 0 ≤ now ∧ now ≤ 10000000000) (h1 : 1 ≤ n ∧ n ≤ 1073741824) : Set.f now m x n = some (0, now, upM m x (now + n)) := by
  unfold Set.f there.f
  rw [Option.bind_some]
  rw [iff_ (by rfl), iff_ (df (by omega)), iff_ (df (by omega)), lt_is rfl, w64 (by simp only; omega) (by simp only; omega)]
theorem set_bad {now n : Int} (m : List (Int × Int)) (x : Int) (h1 : n < 1 ∨ n > 1073741824) : Set.f now m x n = some (1, now, m) := by
  unfold Set.f there.f
  rw [Option.bind_some, iff_ (by rfl)]
  by_cases h : n < 1
  · rw [ift (dt h)]
  · rw [iff_ (df h), ift (dt (by omega))]
theorem left_no {now : Int} {m : List (Int × Int)} {x : Int} (h : lkM m x = none) : Left.f now m x = some (0, false, now, m) := by
  unfold Left.f there.f
  rw [Option.bind_some, iff_ (by rfl), lt_is rfl, lt_is rfl]
  simp only [h]
  rfl
theorem left_yes {now : Int} {m : List (Int × Int)} {x v : Int} (h : lkM m x = some v) (h0 : 0 ≤ now ∧ now ≤ 100000000000) (h1 : 0 ≤ v ∧ v ≤ 100000000000) : Left.f now m x = some (v - now, true, now, m) := by
  unfold Left.f there.f
  rw [Option.bind_some, iff_ (by rfl), lt_is rfl, lt_is rfl]
  simp only [h]
  rw [iff_ (by rfl), lt_is rfl]
  simp only [Option.getD_some]
  rw [w64 (by omega) (by omega)]
theorem clear_no {now : Int} {m : List (Int × Int)} {x : Int} (h : lkM m x = none) : Clear.f now m x = some (6, now, m) := by
  unfold Clear.f there.f
  rw [Option.bind_some, iff_ (by rfl), lt_is rfl]
  simp only [h]
  rfl
theorem clear_yes {now : Int} {m : List (Int × Int)} {x v : Int} (h : lkM m x = some v) : Clear.f now m x = some (0, now, delM m x) := by
  unfold Clear.f there.f
  rw [Option.bind_some, iff_ (by rfl), lt_is rfl]
  simp only [h]
  rw [iff_ (by rfl), lt_is rfl]
theorem tick_l1 (now : Int) (l : List Int) (hl : l.length ≤ 1000) : ∀ (d k i : Nat) (m : List (Int × Int)), i + d = l.length → d < k → Tick.l1 k l now m (i : Int) = some (l, now, (l.drop i).foldl delM m) := by
  intro d
  induction d with
  | zero =>
    intro k i m hi hk
    obtain ⟨k, rfl⟩ : ∃ q, k = q + 1 := ⟨k - 1, by omega⟩
    rw [Tick.l1, iff_ (df (by omega)), List.drop_of_length_le (by omega)]
    rfl
  | succ d ih =>
    intro k i m hi hk
    obtain ⟨k, rfl⟩ : ∃ q, k = q + 1 := ⟨k - 1, by omega⟩
    rw [Tick.l1, ift (dt (by omega)), if_pos (by omega), lt_is rfl, lt_is rfl, w64s (by omega), ih k (i + 1) _ (by omega) (by omega), Int.toNat_natCast]
    rw [List.drop_eq_getElem_cons (by omega : i < l.length), List.foldl_cons, List.getD_eq_getElem?_getD, List.getElem?_eq_getElem (by omega)]
    rfl
theorem tick_is {L : Nat} {m : List (Int × Int)} {f : Int → Option Int} (h : Is L m f) (hL : L ≤ 1000) {now : Int} (h0 : 0 ≤ now ∧ now ≤ 10000000000) {k : Nat} (hk : L < k) :
    ∃ l m', Tick.f k now m = some (l, now + 1, m') ∧ Is L m' (fun y => if f y = some (now + 1) then none else f y) ∧ (∀ x, x ∈ l ↔ f x = some (now + 1)) ∧ l.Pairwise (· < ·) ∧ l.length ≤ L ∧ m'.length + l.length = m.length := by
  have hlen := h.len
  obtain ⟨d1, d2, d3⟩ := h.dues (now := now + 1) ⟨by omega, by omega⟩
  refine ⟨Clk.due (now + 1) m, (Clk.due (now + 1) m).foldl delM m, ?_, (h.dels _).ext (fun x => ?_), d1, d2, d3, dels_len _ h (d2.imp (fun hab e => by omega)) (fun x hx e => ?_)⟩
  · unfold Tick.f there.f
    rw [Option.bind_some, iff_ (by rfl), lt_is rfl]
    simp only
    rw [if_pos (by omega), lt_is rfl, w64 (by omega) (by omega)]
    exact tick_l1 _ _ (by omega) (Clk.due (now + 1) m).length k 0 m (by omega) (by omega)
  · by_cases hx : f x = some (now + 1)
    · rw [if_pos hx, if_pos ((d1 x).2 hx)]
    · rw [if_neg hx, if_neg (fun q => hx ((d1 x).1 q))]
  · rw [(d1 x).1 hx] at e; cases e
/-- The same, of those who are due when it is known who they are. -/
theorem tick_eq {L : Nat} {m : List (Int × Int)} {f : Int → Option Int} (h : Is L m f) (hL : L ≤ 1000) {now : Int} (h0 : 0 ≤ now ∧ now ≤ 10000000000) {k : Nat} (hk : L < k) {l : List Int} (hs : l.Pairwise (· < ·)) (hl : ∀ x, x ∈ l ↔ f x = some (now + 1)) :
    ∃ m', Tick.f k now m = some (l, now + 1, m') ∧ Is L m' (fun y => if f y = some (now + 1) then none else f y) ∧ l.length ≤ L := by
  obtain ⟨l', m', h1, h2, h3, h4, h5, -⟩ := tick_is h hL h0 hk
  have : l' = l := sorted_unique h4 hs (fun x => by rw [h3, hl])
  subst this
  exact ⟨m', h1, h2, h5⟩
theorem tick_none {L : Nat} {m : List (Int × Int)} {f : Int → Option Int} (h : Is L m f) (hL : L ≤ 1000) {now : Int} (h0 : 0 ≤ now ∧ now ≤ 10000000000) {k : Nat} (hk : L < k) (hf : ∀ x, f x ≠ some (now + 1)) :
    ∃ m', Tick.f k now m = some ([], now + 1, m') ∧ Is L m' f := by
  obtain ⟨m', h1, h2, -⟩ := tick_eq h hL h0 hk (l := []) List.Pairwise.nil (fun x => by simp [hf x])
  exact ⟨m', h1, h2.ext (fun x => by rw [if_neg (hf x)])⟩
theorem same_l1 (l : List Int) (hl : l.length ≤ 100000) : ∀ (d k i : Nat), i + d = l.length → d < k → SameIds.l1 k l l (i : Int) = some true := by
  intro d
  induction d with
  | zero =>
    intro k i hi hk
    obtain ⟨k, rfl⟩ : ∃ q, k = q + 1 := ⟨k - 1, by omega⟩
    rw [SameIds.l1, iff_ (df (by omega))]
  | succ d ih =>
    intro k i hi hk
    obtain ⟨k, rfl⟩ : ∃ q, k = q + 1 := ⟨k - 1, by omega⟩
    rw [SameIds.l1, ift (dt (by omega)), if_pos (by omega), if_pos (by omega), iff_ (bne_no rfl), w64s (by omega)]
    exact ih k (i + 1) (by omega) (by omega)
theorem same_is (l : List Int) (hl : l.length ≤ 100000) {k : Nat} (hk : l.length < k) : SameIds.f k l l = some true := by
  unfold SameIds.f
  rw [iff_ (bne_no rfl)]
  exact same_l1 l hl l.length k 0 (by omega) hk
theorem alive_is {k : Nat} (hk : 10 < k) : alive.f k = some true := by
  unfold alive.f
  rw [set_is _ _ (by decide) (by decide), Option.bind_some, iff_ (by rfl), set_is _ _ (by decide) (by decide), Option.bind_some, iff_ (by rfl), set_is _ _ (by decide) (by decide), Option.bind_some, iff_ (by rfl)]
  have h1 := ((Is.nil.up 7 (0 + 2) (by decide)).up 5 (0 + 2) (by decide)).up 6 (0 + 1) (by decide)
  obtain ⟨m1, e1, h2, -⟩ := tick_eq h1 (by decide) (now := 0) (by decide) (k := k) (by omega) (l := [6]) (by simp) (fun x => by
    simp only [List.mem_singleton]
    by_cases a6 : x = 6 <;> by_cases a5 : x = 5 <;> by_cases a7 : x = 7 <;> simp [a6, a5, a7])
  simp only
  rw [e1, Option.bind_some]
  have e2 : lkM m1 7 = some 2 := by rw [h2.lk]; decide
  simp only
  rw [left_yes e2 (by decide) (by decide), Option.bind_some]
  obtain ⟨m2, e3, h3, -⟩ := tick_eq h2 (by decide) (now := 0 + 1) (by decide) (k := k) (by omega) (l := [5, 7]) (by simp) (fun x => by
    simp only [List.mem_cons, List.not_mem_nil, or_false]
    by_cases a6 : x = 6 <;> by_cases a5 : x = 5 <;> by_cases a7 : x = 7 <;> simp [a6, a5, a7])
  simp only
  rw [e3, Option.bind_some]
  have e4 : lkM m2 7 = none := by rw [h3.lk]; decide
  simp only
  rw [left_no e4, Option.bind_some, same_is [6] (by decide) (by simp; omega), Option.bind_some, iff_ (by rfl)]
  simp only
  rw [iff_ (by decide), iff_ (by decide), same_is [5, 7] (by decide) (by simp; omega), Option.bind_some, iff_ (by rfl), iff_ (by rfl)]
  rw [set_is _ _ (by decide) (by decide), Option.bind_some, iff_ (by rfl), set_is _ _ (by simp only; decide) (by decide), Option.bind_some, iff_ (by rfl)]
  have h4 := (h3.up 1 (0 + 1 + 1 + 3) (by decide)).up 1 (0 + 1 + 1 + 1) (by decide)
  obtain ⟨m3, e5, h5, -⟩ := tick_eq h4 (by decide) (now := 0 + 1 + 1) (by decide) (k := k) (by omega) (l := [1]) (by simp) (fun x => by
    simp only [List.mem_singleton]
    by_cases a1 : x = 1 <;> by_cases a6 : x = 6 <;> by_cases a5 : x = 5 <;> by_cases a7 : x = 7 <;> simp [a1, a6, a5, a7])
  simp only
  rw [e5, Option.bind_some, same_is [1] (by decide) (by simp; omega), Option.bind_some, if_pos rfl]
  have e6 : lkM m3 1 = none := by rw [h5.lk]; decide
  simp only
  rw [clear_no e6, Option.bind_some, if_pos (by rfl), set_bad _ _ (by decide), Option.bind_some, if_pos (by rfl), set_bad _ _ (by decide), Option.bind_some]
  rfl

theorem shift_l3 {L : Nat} (hL : L ≤ 100) (s : Int) (hs : 0 ≤ s ∧ s ≤ 255) : ∀ (d k : Nat) (t : Int) (ma mb : List (Int × Int)) (f : Int → Option Int), t + d = 41 → 0 ≤ t → d + 300 < k → Is L mb f → Is L ma (fun x => (f x).map (· + s)) → (∀ x v, f x = some v → t < v ∧ v ≤ 40) → ClocksShift.l3 k t mb (t + s) ma t = some true := by
  intro d
  induction d with
  | zero =>
    intro k t ma mb f ht h1 hk hb ha hf
    obtain ⟨k, rfl⟩ : ∃ q, k = q + 1 := ⟨k - 1, by omega⟩
    have hn : ∀ x, f x = none := fun x => by
      cases h : f x with
      | none => rfl
      | some v => have := hf x v h; omega
    rw [ClocksShift.l3, iff_ (df (by omega)), left_no (by rw [ha.lk, hn]; rfl)]
    rfl
  | succ d ih =>
    intro k t ma mb f ht h1 hk hb ha hf
    obtain ⟨k, rfl⟩ : ∃ q, k = q + 1 := ⟨k - 1, by omega⟩
    obtain ⟨l, mb', e1, e2, e3, e4, e5, -⟩ := tick_is hb (by omega) (now := t) ⟨by omega, by omega⟩ (k := k) (by omega)
    have hiff : ∀ x, (f x).map (· + s) = some (t + s + 1) ↔ f x = some (t + 1) := fun x => by
      cases f x with
      | none => simp
      | some v => simp; omega
    obtain ⟨ma', g1, g2, -⟩ := tick_eq ha (by omega) (now := t + s) ⟨by omega, by omega⟩ (k := k) (by omega) (l := l) e4 (fun x => by rw [e3, hiff])
    rw [ClocksShift.l3, ift (dt (by omega)), g1, Option.bind_some, e1, Option.bind_some, same_is l (by omega) (by omega), Option.bind_some, iff_ (by rfl), w64 (by omega) (by omega)]
    have := ih k (t + 1) ma' mb' _ (by omega) (by omega) (by omega) e2 (g2.ext fun x => by
      by_cases h : f x = some (t + 1)
      · rw [if_pos ((hiff x).2 h), if_pos h]; rfl
      · rw [if_neg (fun q => h ((hiff x).1 q)), if_neg h]) (fun x v hv => by
      split at hv
      · cases hv
      · rename_i hne
        have := hf x v hv
        have : v ≠ t + 1 := fun e => hne (by rw [hv, e])
        omega)
    rw [show t + 1 + s = t + s + 1 by omega] at this
    exact this
theorem shift_l2 (s : Int) (hs : 0 ≤ s ∧ s ≤ 255) (l1 : List Int) (v1 : ∀ n ∈ l1, (Lit.int .u8 n).wf = true) (hl : l1.length ≤ 60) : ∀ (d k i : Nat) (ma mb : List (Int × Int)) (f : Int → Option Int), i + d = l1.length → d + 400 < k → Is i mb f → Is i ma (fun x => (f x).map (· + s)) → (∀ x v, f x = some v → 0 < v ∧ v ≤ 40) → ClocksShift.l2 k l1 0 mb s ma i = some true := by
  intro d
  induction d with
  | zero =>
    intro k i ma mb f hi hk hb ha hf
    obtain ⟨k, rfl⟩ : ∃ q, k = q + 1 := ⟨k - 1, by omega⟩
    rw [ClocksShift.l2, iff_ (df (by omega))]
    have := shift_l3 (L := i) (by omega) s hs 41 k 0 ma mb f (by omega) (by omega) (by omega) hb ha hf
    rw [show 0 + s = s by omega] at this
    exact this
  | succ d ih =>
    intro k i ma mb f hi hk hb ha hf
    obtain ⟨k, rfl⟩ : ∃ q, k = q + 1 := ⟨k - 1, by omega⟩
    have hy := wf8 v1 (i := i) (by omega)
    rw [ClocksShift.l2, ift (dt (by omega)), if_pos (by omega), Int.toNat_natCast]
    generalize l1.getD i 0 = y at hy ⊢
    rw [tm (by omega), w64 (x := y % 40) (by omega) (by omega), w64 (by omega) (by omega), lt_is rfl, set_is _ _ ⟨by omega, by omega⟩ ⟨by omega, by omega⟩, Option.bind_some, iff_ (by rfl), set_is _ _ ⟨by omega, by omega⟩ ⟨by omega, by omega⟩, Option.bind_some, iff_ (by rfl), w64s (by omega)]
    generalize IntKind.wrap .u32 (Int.tmod (i : Int) 7) = q
    refine ih k (i + 1) _ _ (fun y' => if y' = q then some (0 + (1 + y % 40)) else f y') (by omega) (by omega) (hb.up q _ ⟨by omega, by omega⟩) ((ha.up q _ ⟨by omega, by omega⟩).ext fun x => ?_) (fun x v hv => ?_)
    · by_cases h : x = q
      · rw [if_pos h, if_pos h]; simp; omega
      · rw [if_neg h, if_neg h]
    · split at hv
      · injection hv with hv; omega
      · exact hf x v hv
theorem shift_l1 (s : Nat) (hs : s ≤ 255) (l1 : List Int) (v1 : ∀ n ∈ l1, (Lit.int .u8 n).wf = true) (hl : l1.length ≤ 60) : ∀ (d k i : Nat) (m : List (Int × Int)), i + d = s → d + 500 < k → Is 0 m (fun _ => none) → ClocksShift.l1 k s l1 i m i = some true := by
  intro d
  induction d with
  | zero =>
    intro k i m hi hk h
    obtain ⟨k, rfl⟩ : ∃ q, k = q + 1 := ⟨k - 1, by omega⟩
    rw [ClocksShift.l1, w64 (by omega) (by omega), iff_ (df (by omega))]
    exact shift_l2 i ⟨by omega, by omega⟩ l1 v1 hl l1.length k 0 m [] (fun _ => none) (by omega) (by omega) Is.nil h (fun x v hv => by cases hv)
  | succ d ih =>
    intro k i m hi hk h
    obtain ⟨k, rfl⟩ : ∃ q, k = q + 1 := ⟨k - 1, by omega⟩
    obtain ⟨m', h1, h2⟩ := tick_none h (by decide) (now := (i : Int)) ⟨by omega, by omega⟩ (k := k) (by omega) (fun x => by simp)
    rw [ClocksShift.l1, w64 (x := (s : Int)) (by omega) (by omega), ift (dt (by omega)), h1, Option.bind_some, iff_ (by rfl), w64s (by omega)]
    exact ih k (i + 1) m' (by omega) (by omega) h2
theorem ClocksShift_pure (a0 : Int) (l1 : List Int) (v0 : (Lit.int .u8 a0).wf = true) (hy1 : l1.length ≤ 140737488351232) (v1 : ∀ n ∈ l1, (Lit.int .u8 n).wf = true) : ∃ k, ClocksShift.f k a0 l1 = some true := by
  refine ⟨1000, ?_⟩
  have b0 := wfu8 v0
  unfold ClocksShift.f
  rw [alive_is (by omega), Option.bind_some, iff_ (by rfl)]
  by_cases hl : l1.length ≤ 60
  · rw [iff_ (df (by omega))]
    obtain ⟨s, rfl⟩ : ∃ s : Nat, a0 = (s : Int) := ⟨a0.toNat, by omega⟩
    exact shift_l1 s (by omega) l1 v1 hl s 1000 0 [] (by omega) (by omega) Is.nil
  · rw [ift (dt (by omega)), Option.bind_some]
end Go.Proofs.Ytlhdofkdjlpheaa.Pl
