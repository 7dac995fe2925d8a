/- The plain law of ClocksTell. -/
import Derived.Test.YtlhdofkdjlpheaaDClocksTell
import Derived.Test.YtlhdofkdjlpheaaCl
import Derived.IntWalk
namespace Go.Proofs.Ytlhdofkdjlpheaa.Pl
open Go Go.RowKit Sx Base Own

theorem set_is {now n : Int} (m : List (Int × Int)) (x : Int) (h0 : 0 ≤ now ∧ now ≤ 10000000000) (h1 : 1 ≤ n ∧ n ≤ 1073741824) : Set.f now m x n = some (0, now, upM m x (now + n)) := by
  unfold Set.f there.f
  rw [Option.bind_some]
  rw [iff_ (by rfl), iff_ (df (by omega)), iff_ (df (by omega)), lt_is rfl, w64 (by simp only; omega) (by simp only; omega)]
theorem set_bad {now n : Int} (m : List (Int × Int)) (x : Int) (h1 : n < 1 ∨ n > 1073741824) : Set.f now m x n = some (1, now, m) := by
  unfold Set.f there.f
  rw [Option.bind_some, iff_ (by rfl)]
  by_cases h : n < 1
  · rw [ift (dt h)]
  · rw [iff_ (df h), ift (dt (by omega))]
theorem left_no {now : Int} {m : List (Int × Int)} {x : Int} (h : lkM m x = none) : Left.f now m x = some (0, false, now, m) := by
  unfold Left.f there.f
  rw [Option.bind_some, iff_ (by rfl), lt_is rfl, lt_is rfl]
  simp only [h]
  rfl
theorem left_yes {now : Int} {m : List (Int × Int)} {x v : Int} (h : lkM m x = some v) (h0 : 0 ≤ now ∧ now ≤ 100000000000) (h1 : 0 ≤ v ∧ v ≤ 100000000000) : Left.f now m x = some (v - now, true, now, m) := by
  unfold Left.f there.f
  rw [Option.bind_some, iff_ (by rfl), lt_is rfl, lt_is rfl]
  simp only [h]
  rw [iff_ (by rfl), lt_is rfl]
  simp only [Option.getD_some]
  rw [w64 (by omega) (by omega)]
theorem clear_no {now : Int} {m : List (Int × Int)} {x : Int} (h : lkM m x = none) : Clear.f now m x = some (6, now, m) := by
  unfold Clear.f there.f
  rw [Option.bind_some, iff_ (by rfl), lt_is rfl]
  simp only [h]
  rfl
theorem clear_yes {now : Int} {m : List (Int × Int)} {x v : Int} (h : lkM m x = some v) : Clear.f now m x = some (0, now, delM m x) := by
  unfold Clear.f there.f
  rw [Option.bind_some, iff_ (by rfl), lt_is rfl]
  simp only [h]
  rw [iff_ (by rfl), lt_is rfl]
theorem tick_l1 (now : Int) (l : List Int) (hl : l.length ≤ 1000) : ∀ (d k i : Nat) (m : List (Int × Int)), i + d = l.length → d < k → Tick.l1 k l now m (i : Int) = some (l, now, (l.drop i).foldl delM m) := by
  intro d
  induction d with
  | zero =>
    intro k i m hi hk
    obtain ⟨k, rfl⟩ : ∃ q, k = q + 1 := ⟨k - 1, by omega⟩
    rw [Tick.l1, iff_ (df (by omega)), List.drop_of_length_le (by omega)]
    rfl
  | succ d ih =>
    intro k i m hi hk
    obtain ⟨k, rfl⟩ : ∃ q, k = q + 1 := ⟨k - 1, by omega⟩
    rw [Tick.l1, ift (dt (by omega)), if_pos (by omega), lt_is rfl, lt_is rfl, w64s (by omega), ih k (i + 1) _ (by omega) (by omega), Int.toNat_natCast]
    rw [List.drop_eq_getElem_cons (by omega : i < l.length), List.foldl_cons, List.getD_eq_getElem?_getD, List.getElem?_eq_getElem (by omega)]
    rfl
theorem tick_is {L : Nat} {m : List (Int × Int)} {f : Int → Option Int} (h : Is L m f) (hL : L ≤ 1000) {now : Int} (h0 : 0 ≤ now ∧ now ≤ 10000000000) {k : Nat} (hk : L < k) :
    ∃ l m', Tick.f k now m = some (l, now + 1, m') ∧ Is L m' (fun y => if f y = some (now + 1) then none else f y) ∧ (∀ x, x ∈ l ↔ f x = some (now + 1)) ∧ l.Pairwise (· < ·) ∧ l.length ≤ L ∧ m'.length + l.length = m.length := by
  have hlen := h.len
  obtain ⟨d1, d2, d3⟩ := h.dues (now := now + 1) ⟨by omega, by omega⟩
  refine ⟨Clk.due (now + 1) m, (Clk.due (now + 1) m).foldl delM m, ?_, (h.dels _).ext (fun x => ?_), d1, d2, d3, dels_len _ h (d2.imp (fun hab e => by omega)) (fun x hx e => ?_)⟩
  · unfold Tick.f there.f
    rw [Option.bind_some, iff_ (by rfl), lt_is rfl]
    simp only
    rw [if_pos (by omega), lt_is rfl, w64 (by omega) (by omega)]
    exact tick_l1 _ _ (by omega) (Clk.due (now + 1) m).length k 0 m (by omega) (by omega)
  · by_cases hx : f x = some (now + 1)
    · rw [if_pos hx, if_pos ((d1 x).2 hx)]
    · rw [if_neg hx, if_neg (fun q => hx ((d1 x).1 q))]
  · rw [(d1 x).1 hx] at e; cases e
/-- The same, of those who are due when it is known who they are. -/
theorem tick_eq {L : Nat} {m : List (Int × Int)} {f : Int → Option Int} (h : Is L m f) (hL : L ≤ 1000) {now : Int} (h0 : 0 ≤ now ∧ now ≤ 10000000000) {k : Nat} (hk : L < k) {l : List Int} (hs : l.Pairwise (· < ·)) (hl : ∀ x, x ∈ l ↔ f x = some (now + 1)) :
    ∃ m', Tick.f k now m = some (l, now + 1, m') ∧ Is L m' (fun y => if f y = some (now + 1) then none else f y) ∧ l.length ≤ L := by
  obtain ⟨l', m', h1, h2, h3, h4, h5, -⟩ := tick_is h hL h0 hk
  have : l' = l := sorted_unique h4 hs (fun x => by rw [h3, hl])
  subst this
  exact ⟨m', h1, h2, h5⟩
theorem tick_none {L : Nat} {m : List (Int × Int)} {f : Int → Option Int} (h : Is L m f) (hL : L ≤ 1000) {now : Int} (h0 : 0 ≤ now ∧ now ≤ 10000000000) {k : Nat} (hk : L < k) (hf : ∀ x, f x ≠ some (now + 1)) :
    ∃ m', Tick.f k now m = some ([], now + 1, m') ∧ Is L m' f := by
  obtain ⟨m', h1, h2, -⟩ := tick_eq h hL h0 hk (l := []) List.Pairwise.nil (fun x => by simp [hf x])
  exact ⟨m', h1, h2.ext (fun x => by rw [if_neg (hf x)])⟩
theorem same_l1 (l : List Int) (hl : l.length ≤ 100000) : ∀ (d k i : Nat), i + d = l.length → d < k → SameIds.l1 k l l (i : Int) = some true := by
  intro d
  induction d with
  | zero =>
    intro k i hi hk
    obtain ⟨k, rfl⟩ : ∃ q, k = q + 1 := ⟨k - 1, by omega⟩
    rw [SameIds.l1, iff_ (df (by omega))]
  | succ d ih =>
    intro k i hi hk
    obtain ⟨k, rfl⟩ : ∃ q, k = q + 1 := ⟨k - 1, by omega⟩
    rw [SameIds.l1, ift (dt (by omega)), if_pos (by omega), if_pos (by omega), iff_ (bne_no rfl), w64s (by omega)]
    exact ih k (i + 1) (by omega) (by omega)
theorem same_is (l : List Int) (hl : l.length ≤ 100000) {k : Nat} (hk : l.length < k) : SameIds.f k l l = some true := by
  unfold SameIds.f
  rw [iff_ (bne_no rfl)]
  exact same_l1 l hl l.length k 0 (by omega) hk
theorem alive_is {k : Nat} (hk : 10 < k) : alive.f k = some true := by
  unfold alive.f
  rw [set_is _ _ (by decide) (by decide), Option.bind_some, iff_ (by rfl), set_is _ _ (by decide) (by decide), Option.bind_some, iff_ (by rfl), set_is _ _ (by decide) (by decide), Option.bind_some, iff_ (by rfl)]
  have h1 := ((Is.nil.up 7 (0 + 2) (by decide)).up 5 (0 + 2) (by decide)).up 6 (0 + 1) (by decide)
  obtain ⟨m1, e1, h2, -⟩ := tick_eq h1 (by decide) (now := 0) (by decide) (k := k) (by omega) (l := [6]) (by simp) (fun x => by
    simp only [List.mem_singleton]
    by_cases a6 : x = 6 <;> by_cases a5 : x = 5 <;> by_cases a7 : x = 7 <;> simp [a6, a5, a7])
  simp only
  rw [e1, Option.bind_some]
  have e2 : lkM m1 7 = some 2 := by rw [h2.lk]; decide
  simp only
  rw [left_yes e2 (by decide) (by decide), Option.bind_some]
  obtain ⟨m2, e3, h3, -⟩ := tick_eq h2 (by decide) (now := 0 + 1) (by decide) (k := k) (by omega) (l := [5, 7]) (by simp) (fun x => by
    simp only [List.mem_cons, List.not_mem_nil, or_false]
    by_cases a6 : x = 6 <;> by_cases a5 : x = 5 <;> by_cases a7 : x = 7 <;> simp [a6, a5, a7])
  simp only
  rw [e3, Option.bind_some]
  have e4 : lkM m2 7 = none := by rw [h3.lk]; decide
  simp only
  rw [left_no e4, Option.bind_some, same_is [6] (by decide) (by simp; omega), Option.bind_some, iff_ (by rfl)]
  simp only
  rw [iff_ (by decide), iff_ (by decide), same_is [5, 7] (by decide) (by simp; omega), Option.bind_some, iff_ (by rfl), iff_ (by rfl)]
  rw [set_is _ _ (by decide) (by decide), Option.bind_some, iff_ (by rfl), set_is _ _ (by simp only; decide) (by decide), Option.bind_some, iff_ (by rfl)]
  have h4 := (h3.up 1 (0 + 1 + 1 + 3) (by decide)).up 1 (0 + 1 + 1 + 1) (by decide)
  obtain ⟨m3, e5, h5, -⟩ := tick_eq h4 (by decide) (now := 0 + 1 + 1) (by decide) (k := k) (by omega) (l := [1]) (by simp) (fun x => by
    simp only [List.mem_singleton]
    by_cases a1 : x = 1 <;> by_cases a6 : x = 6 <;> by_cases a5 : x = 5 <;> by_cases a7 : x = 7 <;> simp [a1, a6, a5, a7])
  simp only
  rw [e5, Option.bind_some, same_is [1] (by decide) (by simp; omega), Option.bind_some, if_pos rfl]
  have e6 : lkM m3 1 = none := by rw [h5.lk]; decide
  simp only
  rw [clear_no e6, Option.bind_some, if_pos (by rfl), set_bad _ _ (by decide), Option.bind_some, if_pos (by rfl), set_bad _ _ (by decide), Option.bind_some]
  rfl

/-- What is set, of the numbers that are told. -/
def duF (D : List Int) (t : Int) (x : Int) : Option Int := if x % 16777216 = 0 ∧ 0 ≤ x ∧ x / 16777216 < 256 ∧ D.getD (x / 16777216).toNat 0 ≥ t then some (D.getD (x / 16777216).toNat 0) else none
theorem duF_iff (D : List Int) (t v x : Int) (hv : t ≤ v) : duF D t x = some v ↔ ∃ k : Nat, k < 256 ∧ x = (k : Int) * 16777216 ∧ D.getD k 0 = v := by
  unfold duF
  constructor
  · intro h
    split at h
    · rename_i hc
      injection h with h
      exact ⟨(x / 16777216).toNat, by omega, by omega, h⟩
    · cases h
  · rintro ⟨k, hk, rfl, e⟩
    have e1 : (k : Int) * 16777216 / 16777216 = k := by omega
    rw [e1, Int.toNat_natCast, e, if_pos ⟨by omega, by omega, by omega, by omega⟩]
theorem tell_l3 (kl2 : Int → List (Int × Int) → Int → Option Bool) (D : List Int) (hD : D.length = 256) (t : Int) (ht : 1 ≤ t ∧ t ≤ 257) (m : List (Int × Int)) (h : Is 256 m (duF D t)) (hr : ∀ m', Is 256 m' (duF D (t + 1)) → kl2 t m' (t + 1) = some true) :
    ∀ (d k j : Nat) (w : List Int), j + d = 256 → d + 300 < k → w.Pairwise (· < ·) → (∀ x, x ∈ w ↔ ∃ i : Nat, i < j ∧ x = (i : Int) * 16777216 ∧ D.getD i 0 = t) → w.length ≤ j → ClocksTell.l3 k kl2 D t (t - 1) m w j = some true := by
  intro d
  induction d with
  | zero =>
    intro k j w hj hk hs hw hlw
    obtain ⟨k, rfl⟩ : ∃ q, k = q + 1 := ⟨k - 1, by omega⟩
    obtain ⟨m', e1, e2, e3⟩ := tick_eq h (by omega) (now := t - 1) ⟨by omega, by omega⟩ (k := k) (by omega) (l := w) hs (fun x => by
      rw [show t - 1 + 1 = t by omega, duF_iff _ _ _ _ (Int.le_refl _), hw]
      constructor
      · rintro ⟨i, hi, q⟩; exact ⟨i, by omega, q⟩
      · rintro ⟨i, hi, q⟩; exact ⟨i, by omega, q⟩)
    rw [ClocksTell.l3, iff_ (df (by omega)), e1, Option.bind_some, same_is w (by omega) (by omega), Option.bind_some, iff_ (by rfl), w64 (by omega) (by omega)]
    simp only
    rw [show t - 1 + 1 = t by omega]
    refine hr m' (e2.ext fun x => ?_)
    rw [show t - 1 + 1 = t by omega]
    by_cases hx : duF D t x = some t
    · rw [if_pos hx]
      unfold duF at hx ⊢
      split at hx
      · rename_i hc
        injection hx with hx
        rw [if_neg (by omega)]
      · cases hx
    · rw [if_neg hx]
      unfold duF at hx ⊢
      by_cases hc : x % 16777216 = 0 ∧ 0 ≤ x ∧ x / 16777216 < 256 ∧ D.getD (x / 16777216).toNat 0 ≥ t
      · rw [if_pos hc] at hx ⊢
        have : D.getD (x / 16777216).toNat 0 ≠ t := fun e => hx (by rw [e])
        rw [if_pos (by omega)]
      · rw [if_neg hc, if_neg (by omega)]
  | succ d ih =>
    intro k j w hj hk hs hw hlw
    obtain ⟨k, rfl⟩ : ∃ q, k = q + 1 := ⟨k - 1, by omega⟩
    have ew : IntKind.wrap .u32 (IntKind.wrap .u32 (j : Int) * 16777216) = (j : Int) * 16777216 := by
      rw [IntKind.wrap_u32, IntKind.wrap_u32]; omega
    unfold ClocksTell.l3 ClocksTell.j1
    rw [ift (dt (by omega)), if_pos (by omega), Int.toNat_natCast, ew, w64s (by omega)]
    by_cases hd : D.getD j 0 = t
    · rw [ift (beq_yes hd), if_pos (by simp only [List.length_cons, List.length_nil]; omega)]
      refine ih k (j + 1) _ (by omega) (by omega) ?_ (fun x => ?_) (by simp; omega)
      · rw [List.pairwise_append]
        refine ⟨hs, by simp, fun a ha b hb => ?_⟩
        obtain ⟨i, hi, rfl, -⟩ := (hw a).1 ha
        rw [List.mem_singleton] at hb
        omega
      · rw [List.mem_append, List.mem_singleton, hw]
        constructor
        · rintro (⟨i, hi, q⟩ | e)
          · exact ⟨i, by omega, q⟩
          · exact ⟨j, by omega, e, hd⟩
        · rintro ⟨i, hi, e, q⟩
          by_cases hij : i = j
          · subst hij; exact .inr e
          · exact .inl ⟨i, by omega, e, q⟩
    · rw [iff_ (beq_no hd)]
      refine ih k (j + 1) w (by omega) (by omega) hs (fun x => ?_) (by omega)
      rw [hw]
      constructor
      · rintro ⟨i, hi, q⟩; exact ⟨i, by omega, q⟩
      · rintro ⟨i, hi, e, q⟩
        by_cases hij : i = j
        · subst hij; exact absurd q hd
        · exact ⟨i, by omega, e, q⟩
theorem tell_l2 (D : List Int) (hD : D.length = 256) : ∀ (d k : Nat) (t : Int) (m : List (Int × Int)), t + d = 258 → 1 ≤ t → d + 700 < k → Is 256 m (duF D t) → ClocksTell.l2 k D (t - 1) m t = some true := by
  intro d
  induction d with
  | zero =>
    intro k t m ht h1 hk h
    obtain ⟨k, rfl⟩ : ∃ q, k = q + 1 := ⟨k - 1, by omega⟩
    rw [ClocksTell.l2, iff_ (df (by omega))]
  | succ d ih =>
    intro k t m ht h1 hk h
    obtain ⟨k, rfl⟩ : ∃ q, k = q + 1 := ⟨k - 1, by omega⟩
    rw [ClocksTell.l2, ift (dt (by omega))]
    refine tell_l3 _ D hD t ⟨by omega, by omega⟩ m h (fun m' h' => ?_) 256 k 0 [] (by omega) (by omega) List.Pairwise.nil (fun x => by simp) (by simp)
    have := ih k (t + 1) m' (by omega) (by omega) (by omega) h'
    rw [show t + 1 - 1 = t by omega] at this
    exact this
theorem tell_l1 (l0 l1 : List Int) (v0 : ∀ n ∈ l0, (Lit.int .u8 n).wf = true) (v1 : ∀ n ∈ l1, (Lit.int .u8 n).wf = true) (hl : l0.length ≤ 60) (hll : l1.length = l0.length) :
    ∀ (d k i : Nat) (D : List Int) (m : List (Int × Int)), i + d = l0.length → d + 1000 < k → D.length = 256 → Is i m (duF D 1) → ClocksTell.l1 k l0 l1 D 0 m i = some true := by
  intro d
  induction d with
  | zero =>
    intro k i D m hi hk hD h
    obtain ⟨k, rfl⟩ : ∃ q, k = q + 1 := ⟨k - 1, by omega⟩
    rw [ClocksTell.l1, iff_ (df (by omega))]
    exact tell_l2 D hD 257 k 1 m (by omega) (by omega) (by omega) (h.more (by omega))
  | succ d ih =>
    intro k i D m hi hk hD h
    obtain ⟨k, rfl⟩ : ∃ q, k = q + 1 := ⟨k - 1, by omega⟩
    have h0 := wf8 v0 (i := i) (by omega)
    have h1 := wf8 v1 (i := i) (by omega)
    rw [ClocksTell.l1, ift (dt (by omega)), if_pos (by omega)]
    simp only [Int.toNat_natCast]
    generalize l0.getD i 0 = x at h0 ⊢
    generalize l1.getD i 0 = y at h1 ⊢
    have ew : IntKind.wrap .u32 (IntKind.wrap .u32 x * 16777216) = x * 16777216 := by
      rw [IntKind.wrap_u32, IntKind.wrap_u32]; omega
    rw [w64 (x := y) (by omega) (by omega), w64 (by omega) (by omega), lt_is rfl, ew, if_pos (by omega), set_is _ _ (by decide) ⟨by omega, by omega⟩, Option.bind_some, iff_ (by rfl), if_pos (by omega), if_pos (by omega), w64s (by omega)]
    refine ih k (i + 1) _ _ (by omega) (by omega) (by simpa using hD) ((h.up _ _ ⟨by omega, by omega⟩).ext fun z => ?_)
    obtain ⟨n, rfl⟩ : ∃ n : Nat, x = (n : Int) := ⟨x.toNat, by omega⟩
    rw [Int.toNat_natCast]
    unfold duF
    by_cases hz : z = (n : Int) * 16777216
    · have e1 : z / 16777216 = n := by omega
      rw [if_pos hz, e1, Int.toNat_natCast]
      have e2 : (D.set n (1 + y)).getD n 0 = 1 + y := by
        rw [List.getD_eq_getElem?_getD, List.getElem?_set_self (by omega)]; rfl
      rw [e2, if_pos (by omega)]
      congr 1; omega
    · rw [if_neg hz]
      by_cases hc : z % 16777216 = 0 ∧ 0 ≤ z ∧ z / 16777216 < 256
      · have e2 : (D.set n (1 + y)).getD (z / 16777216).toNat 0 = D.getD (z / 16777216).toNat 0 := by
          rw [List.getD_eq_getElem?_getD, List.getElem?_set_ne (by omega), ← List.getD_eq_getElem?_getD]
        rw [e2]
      · rw [if_neg (by omega), if_neg (by omega)]
theorem ClocksTell_pure (l0 : List Int) (l1 : List Int) (hy0 : l0.length ≤ 140737488351232) (v0 : ∀ n ∈ l0, (Lit.int .u8 n).wf = true) (hy1 : l1.length ≤ 140737488351232) (v1 : ∀ n ∈ l1, (Lit.int .u8 n).wf = true) : ∃ k, ClocksTell.f k l0 l1 = some true := by
  refine ⟨2000, ?_⟩
  unfold ClocksTell.f
  rw [alive_is (by omega), Option.bind_some, iff_ (by rfl)]
  by_cases hl : l0.length ≤ 60
  · rw [iff_ (df (by omega))]
    by_cases hll : l0.length = l1.length
    · rw [iff_ (bne_no (by omega))]
      refine tell_l1 l0 l1 v0 v1 hl hll.symm l0.length 2000 0 _ [] (by omega) (by omega) List.length_replicate (Is.nil.ext fun x => ?_)
      unfold duF
      have e : ∀ n : Nat, (List.replicate 256 (0 : Int)).getD n 0 = 0 := fun n => by
        rw [List.getD_eq_getElem?_getD, List.getElem?_replicate]; split <;> rfl
      rw [e, if_neg (by omega)]
    · rw [ift (by simp; omega), Option.bind_some]
  · rw [ift (dt (by omega)), Option.bind_some]
end Go.Proofs.Ytlhdofkdjlpheaa.Pl
