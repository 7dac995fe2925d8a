/- The plain law of ClocksOrder. -/
import Derived.Test.YtlhdofkdjlpheaaDClocksOrder
import Derived.Test.YtlhdofkdjlpheaaCl
import Derived.IntWalk
namespace Go.Proofs.Ytlhdofkdjlpheaa.Pl
open Go Go.RowKit Sx Base Own

theorem set_is {now n : Int} (m : List (Int × Int)) (x : Int) (h0 : 0 ≤ now ∧ now ≤ 10000000000) (h1 : 1 ≤ n ∧ n ≤ 1073741824) : Set.f now m x n = some (0, now, upM m x (now + n)) := by
  unfold Set.f there.f
  rw [Option.bind_some]
  rw [iff_ (by rfl), iff_ (df (by omega)), iff_ (df (by omega)), lt_is rfl, w64 (by simp only; omega) (by simp only; omega)]
theorem set_bad {now n : Int} (m : List (Int × Int)) (x : Int) (h1 : n < 1 ∨ n > 1073741824) : Set.f now m x n = some (1, now, m) := by
  unfold Set.f there.f
  rw [Option.bind_some, iff_ (by rfl)]
  by_cases h : n < 1
  · rw [ift (dt h)]
  · rw [iff_ (df h), ift (dt (by omega))]
theorem left_no {now : Int} {m : List (Int × Int)} {x : Int} (h : lkM m x = none) : Left.f now m x = some (0, false, now, m) := by
  unfold Left.f there.f
  rw [Option.bind_some, iff_ (by rfl), lt_is rfl, lt_is rfl]
  simp only [h]
  rfl
theorem left_yes {now : Int} {m : List (Int × Int)} {x v : Int} (h : lkM m x = some v) (h0 : 0 ≤ now ∧ now ≤ 100000000000) (h1 : 0 ≤ v ∧ v ≤ 100000000000) : Left.f now m x = some (v - now, true, now, m) := by
  unfold Left.f there.f
  rw [Option.bind_some, iff_ (by rfl), lt_is rfl, lt_is rfl]
  simp only [h]
  rw [iff_ (by rfl), lt_is rfl]
  simp only [Option.getD_some]
  rw [w64 (by omega) (by omega)]
theorem clear_no {now : Int} {m : List (Int × Int)} {x : Int} (h : lkM m x = none) : Clear.f now m x = some (6, now, m) := by
  unfold Clear.f there.f
  rw [Option.bind_some, iff_ (by rfl), lt_is rfl]
  simp only [h]
  rfl
theorem clear_yes {now : Int} {m : List (Int × Int)} {x v : Int} (h : lkM m x = some v) : Clear.f now m x = some (0, now, delM m x) := by
  unfold Clear.f there.f
  rw [Option.bind_some, iff_ (by rfl), lt_is rfl]
  simp only [h]
  rw [iff_ (by rfl), lt_is rfl]
theorem tick_l1 (now : Int) (l : List Int) (hl : l.length ≤ 1000) : ∀ (d k i : Nat) (m : List (Int × Int)), i + d = l.length → d < k → Tick.l1 k l now m (i : Int) = some (l, now, (l.drop i).foldl delM m) := by
  intro d
  induction d with
  | zero =>
    intro k i m hi hk
    obtain ⟨k, rfl⟩ : ∃ q, k = q + 1 := ⟨k - 1, by omega⟩
    rw [Tick.l1, iff_ (df (by omega)), List.drop_of_length_le (by omega)]
    rfl
  | succ d ih =>
    intro k i m hi hk
    obtain ⟨k, rfl⟩ : ∃ q, k = q + 1 := ⟨k - 1, by omega⟩
    rw [Tick.l1, ift (dt (by omega)), if_pos (by omega), lt_is rfl, lt_is rfl, w64s (by omega), ih k (i + 1) _ (by omega) (by omega), Int.toNat_natCast]
    rw [List.drop_eq_getElem_cons (by omega : i < l.length), List.foldl_cons, List.getD_eq_getElem?_getD, List.getElem?_eq_getElem (by omega)]
    rfl
theorem tick_is {L : Nat} {m : List (Int × Int)} {f : Int → Option Int} (h : Is L m f) (hL : L ≤ 1000) {now : Int} (h0 : 0 ≤ now ∧ now ≤ 10000000000) {k : Nat} (hk : L < k) :
    ∃ l m', Tick.f k now m = some (l, now + 1, m') ∧ Is L m' (fun y => if f y = some (now + 1) then none else f y) ∧ (∀ x, x ∈ l ↔ f x = some (now + 1)) ∧ l.Pairwise (· < ·) ∧ l.length ≤ L ∧ m'.length + l.length = m.length := by
  have hlen := h.len
  obtain ⟨d1, d2, d3⟩ := h.dues (now := now + 1) ⟨by omega, by omega⟩
  refine ⟨Clk.due (now + 1) m, (Clk.due (now + 1) m).foldl delM m, ?_, (h.dels _).ext (fun x => ?_), d1, d2, d3, dels_len _ h (d2.imp (fun hab e => by omega)) (fun x hx e => ?_)⟩
  · unfold Tick.f there.f
    rw [Option.bind_some, iff_ (by rfl), lt_is rfl]
    simp only
    rw [if_pos (by omega), lt_is rfl, w64 (by omega) (by omega)]
    exact tick_l1 _ _ (by omega) (Clk.due (now + 1) m).length k 0 m (by omega) (by omega)
  · by_cases hx : f x = some (now + 1)
    · rw [if_pos hx, if_pos ((d1 x).2 hx)]
    · rw [if_neg hx, if_neg (fun q => hx ((d1 x).1 q))]
  · rw [(d1 x).1 hx] at e; cases e
/-- The same, of those who are due when it is known who they are. -/
theorem tick_eq {L : Nat} {m : List (Int × Int)} {f : Int → Option Int} (h : Is L m f) (hL : L ≤ 1000) {now : Int} (h0 : 0 ≤ now ∧ now ≤ 10000000000) {k : Nat} (hk : L < k) {l : List Int} (hs : l.Pairwise (· < ·)) (hl : ∀ x, x ∈ l ↔ f x = some (now + 1)) :
    ∃ m', Tick.f k now m = some (l, now + 1, m') ∧ Is L m' (fun y => if f y = some (now + 1) then none else f y) ∧ l.length ≤ L := by
  obtain ⟨l', m', h1, h2, h3, h4, h5, -⟩ := tick_is h hL h0 hk
  have : l' = l := sorted_unique h4 hs (fun x => by rw [h3, hl])
  subst this
  exact ⟨m', h1, h2, h5⟩
theorem tick_none {L : Nat} {m : List (Int × Int)} {f : Int → Option Int} (h : Is L m f) (hL : L ≤ 1000) {now : Int} (h0 : 0 ≤ now ∧ now ≤ 10000000000) {k : Nat} (hk : L < k) (hf : ∀ x, f x ≠ some (now + 1)) :
    ∃ m', Tick.f k now m = some ([], now + 1, m') ∧ Is L m' f := by
  obtain ⟨m', h1, h2, -⟩ := tick_eq h hL h0 hk (l := []) List.Pairwise.nil (fun x => by simp [hf x])
  exact ⟨m', h1, h2.ext (fun x => by rw [if_neg (hf x)])⟩
theorem same_l1 (l : List Int) (hl : l.length ≤ 100000) : ∀ (d k i : Nat), i + d = l.length → d < k → SameIds.l1 k l l (i : Int) = some true := by
  intro d
  induction d with
  | zero =>
    intro k i hi hk
    obtain ⟨k, rfl⟩ : ∃ q, k = q + 1 := ⟨k - 1, by omega⟩
    rw [SameIds.l1, iff_ (df (by omega))]
  | succ d ih =>
    intro k i hi hk
    obtain ⟨k, rfl⟩ : ∃ q, k = q + 1 := ⟨k - 1, by omega⟩
    rw [SameIds.l1, ift (dt (by omega)), if_pos (by omega), if_pos (by omega), iff_ (bne_no rfl), w64s (by omega)]
    exact ih k (i + 1) (by omega) (by omega)
theorem same_is (l : List Int) (hl : l.length ≤ 100000) {k : Nat} (hk : l.length < k) : SameIds.f k l l = some true := by
  unfold SameIds.f
  rw [iff_ (bne_no rfl)]
  exact same_l1 l hl l.length k 0 (by omega) hk
theorem alive_is {k : Nat} (hk : 10 < k) : alive.f k = some true := by
  unfold alive.f
  rw [set_is _ _ (by decide) (by decide), Option.bind_some, iff_ (by rfl), set_is _ _ (by decide) (by decide), Option.bind_some, iff_ (by rfl), set_is _ _ (by decide) (by decide), Option.bind_some, iff_ (by rfl)]
  have h1 := ((Is.nil.up 7 (0 + 2) (by decide)).up 5 (0 + 2) (by decide)).up 6 (0 + 1) (by decide)
  obtain ⟨m1, e1, h2, -⟩ := tick_eq h1 (by decide) (now := 0) (by decide) (k := k) (by omega) (l := [6]) (by simp) (fun x => by
    simp only [List.mem_singleton]
    by_cases a6 : x = 6 <;> by_cases a5 : x = 5 <;> by_cases a7 : x = 7 <;> simp [a6, a5, a7])
  simp only
  rw [e1, Option.bind_some]
  have e2 : lkM m1 7 = some 2 := by rw [h2.lk]; decide
  simp only
  rw [left_yes e2 (by decide) (by decide), Option.bind_some]
  obtain ⟨m2, e3, h3, -⟩ := tick_eq h2 (by decide) (now := 0 + 1) (by decide) (k := k) (by omega) (l := [5, 7]) (by simp) (fun x => by
    simp only [List.mem_cons, List.not_mem_nil, or_false]
    by_cases a6 : x = 6 <;> by_cases a5 : x = 5 <;> by_cases a7 : x = 7 <;> simp [a6, a5, a7])
  simp only
  rw [e3, Option.bind_some]
  have e4 : lkM m2 7 = none := by rw [h3.lk]; decide
  simp only
  rw [left_no e4, Option.bind_some, same_is [6] (by decide) (by simp; omega), Option.bind_some, iff_ (by rfl)]
  simp only
  rw [iff_ (by decide), iff_ (by decide), same_is [5, 7] (by decide) (by simp; omega), Option.bind_some, iff_ (by rfl), iff_ (by rfl)]
  rw [set_is _ _ (by decide) (by decide), Option.bind_some, iff_ (by rfl), set_is _ _ (by simp only; decide) (by decide), Option.bind_some, iff_ (by rfl)]
  have h4 := (h3.up 1 (0 + 1 + 1 + 3) (by decide)).up 1 (0 + 1 + 1 + 1) (by decide)
  obtain ⟨m3, e5, h5, -⟩ := tick_eq h4 (by decide) (now := 0 + 1 + 1) (by decide) (k := k) (by omega) (l := [1]) (by simp) (fun x => by
    simp only [List.mem_singleton]
    by_cases a1 : x = 1 <;> by_cases a6 : x = 6 <;> by_cases a5 : x = 5 <;> by_cases a7 : x = 7 <;> simp [a1, a6, a5, a7])
  simp only
  rw [e5, Option.bind_some, same_is [1] (by decide) (by simp; omega), Option.bind_some, if_pos rfl]
  have e6 : lkM m3 1 = none := by rw [h5.lk]; decide
  simp only
  rw [clear_no e6, Option.bind_some, if_pos (by rfl), set_bad _ _ (by decide), Option.bind_some, if_pos (by rfl), set_bad _ _ (by decide), Option.bind_some]
  rfl

theorem order_l2 {L : Nat} (hL : L ≤ 100) (l0 : List Int) : ∀ (d k : Nat) (t : Int) (ma mb : List (Int × Int)) (f : Int → Option Int) (many : Int), t + d = 51 → 1 ≤ t → d + 300 < k → Is L ma f → Is L mb f → (∀ x v, f x = some v → t - 1 < v ∧ v ≤ 50) → many + ma.length = l0.length → 0 ≤ many → l0.length ≤ 60 → ClocksOrder.l2 k l0 (t - 1) mb (t - 1) ma many t = some true := by
  intro d
  induction d with
  | zero =>
    intro k t ma mb f many ht h1 hk ha hb hf hm hm0 hl
    obtain ⟨k, rfl⟩ : ∃ q, k = q + 1 := ⟨k - 1, by omega⟩
    have hn : ∀ x, f x = none := fun x => by
      cases h : f x with
      | none => rfl
      | some v => have := hf x v h; omega
    have he := ha.empty hn
    rw [he] at hm
    rw [ClocksOrder.l2, iff_ (df (by omega)), lt_is rfl, beq_yes (by simpa using hm)]
  | succ d ih =>
    intro k t ma mb f many ht h1 hk ha hb hf hm hm0 hl
    obtain ⟨k, rfl⟩ : ∃ q, k = q + 1 := ⟨k - 1, by omega⟩
    obtain ⟨l, ma', e1, e2, e3, e4, e5, e6⟩ := tick_is ha (by omega) (now := t - 1) ⟨by omega, by omega⟩ (k := k) (by omega)
    obtain ⟨mb', g1, g2, -⟩ := tick_eq hb (by omega) (now := t - 1) ⟨by omega, by omega⟩ (k := k) (by omega) (l := l) e4 e3
    rw [ClocksOrder.l2, ift (dt (by omega)), e1, Option.bind_some]
    simp only
    rw [lt_is rfl, g1, Option.bind_some, same_is l (by omega) (by omega), Option.bind_some, iff_ (by rfl), w64 (by omega) (by omega), w64 (by omega) (by omega)]
    have := ih k (t + 1) ma' mb' _ (many + l.length) (by omega) (by omega) (by omega) e2 g2 (fun x v hv => by
      split at hv
      · cases hv
      · rename_i hne
        have := hf x v hv
        have : v ≠ t - 1 + 1 := fun e => hne (by rw [hv, e])
        omega) (by omega) (by omega) hl
    rw [show t + 1 - 1 = t - 1 + 1 by omega] at this
    exact this
/-- Of the first i, from some place on. -/
def some50 (l0 : List Int) (x : Int) : Option Int := some (1 + l0.getD x.toNat 0 % 50)
theorem order_l1 (fr : Nat) (hfr : fr ≤ 255) (l0 : List Int) (v0 : ∀ n ∈ l0, (Lit.int .u8 n).wf = true) (hl : l0.length ≤ 60) : ∀ (d k i : Nat) (ma mb : List (Int × Int)) (p q : Int → Bool), i + d = l0.length → d + 400 < k →
    Is i ma (fun x => if p x then some50 l0 x else none) → Is i mb (fun x => if q x then some50 l0 x else none) → ma.length = i →
    (∀ x, p x = true ↔ ∃ j : Nat, j < i ∧ x = j) → (∀ x, q x = true ↔ ∃ j : Nat, j < i ∧ x = (((j + fr) % l0.length : Nat) : Int)) → ClocksOrder.l1 k l0 fr 0 mb 0 ma i = some true := by
  intro d
  induction d with
  | zero =>
    intro k i ma mb p q hi hk ha hb hlen hp hq
    obtain ⟨k, rfl⟩ : ∃ q, k = q + 1 := ⟨k - 1, by omega⟩
    have hpq : ∀ x, q x = p x := fun x => by
      have h1 : q x = true ↔ p x = true := by
        rw [hp, hq]
        constructor
        · rintro ⟨j, hj, e⟩
          exact ⟨_, by have := Nat.mod_lt (j + fr) (show 0 < l0.length by omega); omega, e⟩
        · rintro ⟨j, hj, e⟩
          have hpos : 0 < l0.length := by omega
          have hfm := Nat.mod_lt fr hpos
          refine ⟨(j + (l0.length - fr % l0.length)) % l0.length, by have := Nat.mod_lt (j + (l0.length - fr % l0.length)) hpos; omega, ?_⟩
          have h4 := Nat.div_add_mod fr l0.length
          have e4 : j + (l0.length - fr % l0.length) + fr = j + l0.length * (fr / l0.length + 1) := by
            rw [Nat.mul_add, Nat.mul_one]; omega
          rw [e, Nat.mod_add_mod, e4, Nat.add_mul_mod_self_left, Nat.mod_eq_of_lt (by omega)]
      cases h : q x <;> cases h' : p x <;> simp [h, h'] at h1 ⊢
    rw [ClocksOrder.l1, iff_ (df (by omega))]
    have := order_l2 (L := i) (by omega) l0 50 k 1 ma mb _ 0 (by omega) (by omega) (by omega) ha (hb.ext fun x => by rw [hpq]) (fun x v hv => by
      split at hv
      · unfold some50 at hv
        injection hv with hv
        omega
      · cases hv) (by omega) (by omega) hl
    exact this
  | succ d ih =>
    intro k i ma mb p q hi hk ha hb hlen hp hq
    obtain ⟨k, rfl⟩ : ∃ q, k = q + 1 := ⟨k - 1, by omega⟩
    have hpos : 0 < l0.length := by omega
    have hm : (i + fr) % l0.length < l0.length := Nat.mod_lt _ hpos
    have e1 : Int.tmod (IntKind.wrap .i64 ((i : Int) + IntKind.wrap .i64 (fr : Int))) (l0.length : Int) = (((i + fr) % l0.length : Nat) : Int) := by
      rw [w64 (x := (fr : Int)) (by omega) (by omega), w64 (by omega) (by omega), tm (by omega)]
      rw [show (i : Int) + (fr : Int) = ((i + fr : Nat) : Int) by omega]; exact (Int.natCast_emod _ _).symm
    have hy := wf8 v0 (i := i) (by omega)
    have hy2 := wf8 v0 (i := (i + fr) % l0.length) hm
    have ew : ∀ z : Nat, z < 1000 → IntKind.wrap .u32 (z : Int) = z := fun z hz => by rw [IntKind.wrap_u32]; omega
    rw [ClocksOrder.l1, ift (dt (by omega)), if_pos (by omega), e1, lt_is rfl, if_pos (by omega), Int.toNat_natCast, ew i (by omega), tm (by omega), w64 (x := l0.getD i 0 % 50) (by omega) (by omega), w64 (by omega) (by omega), set_is _ _ (by decide) ⟨by omega, by omega⟩, Option.bind_some, iff_ (by rfl)]
    rw [if_pos (by omega), Int.toNat_natCast, ew _ (by omega), tm (by omega), w64 (x := l0.getD ((i + fr) % l0.length) 0 % 50) (by omega) (by omega), w64 (by omega) (by omega), set_is _ _ (by decide) ⟨by omega, by omega⟩, Option.bind_some, iff_ (by rfl), w64s (by omega)]
    have hpi : p (i : Int) = false := by
      cases h : p (i : Int) with
      | false => rfl
      | true => obtain ⟨j, hj, e⟩ := (hp _).1 h; omega
    refine ih k (i + 1) _ _ (fun x => x == (i : Int) || p x) (fun x => x == (((i + fr) % l0.length : Nat) : Int) || q x) (by omega) (by omega) ((ha.up _ _ ⟨by omega, by omega⟩).ext fun x => ?_) ((hb.up _ _ ⟨by omega, by omega⟩).ext fun x => ?_) ?_ (fun x => ?_) (fun x => ?_)
    · by_cases h : x = (i : Int)
      · rw [if_pos h, beq_yes h, h]; simp [some50]
      · rw [if_neg h, beq_no h]; rfl
    · by_cases h : x = (((i + fr) % l0.length : Nat) : Int)
      · rw [if_pos h, beq_yes h, h]
        simp only [Bool.true_or, if_true, some50, Int.toNat_natCast]
        congr 1; omega
      · rw [if_neg h, beq_no h]; rfl
    · rw [up_len_new _ (by rw [ha.lk, hpi]; rfl), hlen]
    · rw [Bool.or_eq_true, beq_iff_eq, hp]
      constructor
      · rintro (h | ⟨j, hj, e⟩)
        · exact ⟨i, by omega, h⟩
        · exact ⟨j, by omega, e⟩
      · rintro ⟨j, hj, e⟩
        by_cases h : j = i
        · subst h; exact .inl e
        · exact .inr ⟨j, by omega, e⟩
    · rw [Bool.or_eq_true, beq_iff_eq, hq]
      constructor
      · rintro (h | ⟨j, hj, e⟩)
        · exact ⟨i, by omega, h⟩
        · exact ⟨j, by omega, e⟩
      · rintro ⟨j, hj, e⟩
        by_cases h : j = i
        · subst h; exact .inl e
        · exact .inr ⟨j, by omega, e⟩
theorem ClocksOrder_pure (l0 : List Int) (a1 : Int) (hy0 : l0.length ≤ 140737488351232) (v0 : ∀ n ∈ l0, (Lit.int .u8 n).wf = true) (v1 : (Lit.int .u8 a1).wf = true) : ∃ k, ClocksOrder.f k l0 a1 = some true := by
  refine ⟨1000, ?_⟩
  have b1 := wfu8 v1
  unfold ClocksOrder.f
  rw [alive_is (by omega), Option.bind_some, iff_ (by rfl)]
  by_cases hl : l0.length ≤ 60
  · rw [iff_ (df (by omega))]
    obtain ⟨s, rfl⟩ : ∃ s : Nat, a1 = (s : Int) := ⟨a1.toNat, by omega⟩
    exact order_l1 s (by omega) l0 v0 hl l0.length 1000 0 [] [] (fun _ => false) (fun _ => false) (by omega) (by omega) Is.nil Is.nil rfl (fun x => by simp) (fun x => by simp)
  · rw [ift (dt (by omega)), Option.bind_some]
end Go.Proofs.Ytlhdofkdjlpheaa.Pl
