/- The plain law of ClocksApart. -/
import Derived.Test.YtlhdofkdjlpheaaDClocksApart
import Derived.Test.YtlhdofkdjlpheaaCl
import Derived.IntWalk
namespace Go.Proofs.Ytlhdofkdjlpheaa.Pl
open Go Go.RowKit Sx Base Own

theorem set_is {now n : Int} (m : List (Int × Int)) (x : Int) (h0 : 0 ≤ now ∧ now ≤ 10000000000) (h1 : 1 ≤ n ∧ n ≤ 1073741824) : Set.f now m x n = some (0, now, upM m x (now + n)) := by
  unfold Set.f there.f
  rw [Option.bind_some]
  rw [iff_ (by rfl), iff_ (df (by omega)), iff_ (df (by omega)), lt_is rfl, w64 (by simp only; omega) (by simp only; omega)]
theorem set_bad {now n : Int} (m : List (Int × Int)) (x : Int) (h1 : n < 1 ∨ n > 1073741824) : Set.f now m x n = some (1, now, m) := by
  unfold Set.f there.f
  rw [Option.bind_some, iff_ (by rfl)]
  by_cases h : n < 1
  · rw [ift (dt h)]
  · rw [iff_ (df h), ift (dt (by omega))]
theorem left_no {now : Int} {m : List (Int × Int)} {x : Int} (h : lkM m x = none) : Left.f now m x = some (0, false, now, m) := by
  unfold Left.f there.f
  rw [Option.bind_some, iff_ (by rfl), lt_is rfl, lt_is rfl]
  simp only [h]
  rfl
theorem left_yes {now : Int} {m : List (Int × Int)} {x v : Int} (h : lkM m x = some v) (h0 : 0 ≤ now ∧ now ≤ 100000000000) (h1 : 0 ≤ v ∧ v ≤ 100000000000) : Left.f now m x = some (v - now, true, now, m) := by
  unfold Left.f there.f
  rw [Option.bind_some, iff_ (by rfl), lt_is rfl, lt_is rfl]
  simp only [h]
  rw [iff_ (by rfl), lt_is rfl]
  simp only [Option.getD_some]
  rw [w64 (by omega) (by omega)]
theorem clear_no {now : Int} {m : List (Int × Int)} {x : Int} (h : lkM m x = none) : Clear.f now m x = some (6, now, m) := by
  unfold Clear.f there.f
  rw [Option.bind_some, iff_ (by rfl), lt_is rfl]
  simp only [h]
  rfl
theorem clear_yes {now : Int} {m : List (Int × Int)} {x v : Int} (h : lkM m x = some v) : Clear.f now m x = some (0, now, delM m x) := by
  unfold Clear.f there.f
  rw [Option.bind_some, iff_ (by rfl), lt_is rfl]
  simp only [h]
  rw [iff_ (by rfl), lt_is rfl]
theorem tick_l1 (now : Int) (l : List Int) (hl : l.length ≤ 1000) : ∀ (d k i : Nat) (m : List (Int × Int)), i + d = l.length → d < k → Tick.l1 k l now m (i : Int) = some (l, now, (l.drop i).foldl delM m) := by
  intro d
  induction d with
  | zero =>
    intro k i m hi hk
    obtain ⟨k, rfl⟩ : ∃ q, k = q + 1 := ⟨k - 1, by omega⟩
    rw [Tick.l1, iff_ (df (by omega)), List.drop_of_length_le (by omega)]
    rfl
  | succ d ih =>
    intro k i m hi hk
    obtain ⟨k, rfl⟩ : ∃ q, k = q + 1 := ⟨k - 1, by omega⟩
    rw [Tick.l1, ift (dt (by omega)), if_pos (by omega), lt_is rfl, lt_is rfl, w64s (by omega), ih k (i + 1) _ (by omega) (by omega), Int.toNat_natCast]
    rw [List.drop_eq_getElem_cons (by omega : i < l.length), List.foldl_cons, List.getD_eq_getElem?_getD, List.getElem?_eq_getElem (by omega)]
    rfl
theorem tick_is {L : Nat} {m : List (Int × Int)} {f : Int → Option Int} (h : Is L m f) (hL : L ≤ 1000) {now : Int} (h0 : 0 ≤ now ∧ now ≤ 10000000000) {k : Nat} (hk : L < k) :
    ∃ l m', Tick.f k now m = some (l, now + 1, m') ∧ Is L m' (fun y => if f y = some (now + 1) then none else f y) ∧ (∀ x, x ∈ l ↔ f x = some (now + 1)) ∧ l.Pairwise (· < ·) ∧ l.length ≤ L ∧ m'.length + l.length = m.length := by
  have hlen := h.len
  obtain ⟨d1, d2, d3⟩ := h.dues (now := now + 1) ⟨by omega, by omega⟩
  refine ⟨Clk.due (now + 1) m, (Clk.due (now + 1) m).foldl delM m, ?_, (h.dels _).ext (fun x => ?_), d1, d2, d3, dels_len _ h (d2.imp (fun hab e => by omega)) (fun x hx e => ?_)⟩
  · unfold Tick.f there.f
    rw [Option.bind_some, iff_ (by rfl), lt_is rfl]
    simp only
    rw [if_pos (by omega), lt_is rfl, w64 (by omega) (by omega)]
    exact tick_l1 _ _ (by omega) (Clk.due (now + 1) m).length k 0 m (by omega) (by omega)
  · by_cases hx : f x = some (now + 1)
    · rw [if_pos hx, if_pos ((d1 x).2 hx)]
    · rw [if_neg hx, if_neg (fun q => hx ((d1 x).1 q))]
  · rw [(d1 x).1 hx] at e; cases e
/-- The same, of those who are due when it is known who they are. -/
theorem tick_eq {L : Nat} {m : List (Int × Int)} {f : Int → Option Int} (h : Is L m f) (hL : L ≤ 1000) {now : Int} (h0 : 0 ≤ now ∧ now ≤ 10000000000) {k : Nat} (hk : L < k) {l : List Int} (hs : l.Pairwise (· < ·)) (hl : ∀ x, x ∈ l ↔ f x = some (now + 1)) :
    ∃ m', Tick.f k now m = some (l, now + 1, m') ∧ Is L m' (fun y => if f y = some (now + 1) then none else f y) ∧ l.length ≤ L := by
  obtain ⟨l', m', h1, h2, h3, h4, h5, -⟩ := tick_is h hL h0 hk
  have : l' = l := sorted_unique h4 hs (fun x => by rw [h3, hl])
  subst this
  exact ⟨m', h1, h2, h5⟩
theorem tick_none {L : Nat} {m : List (Int × Int)} {f : Int → Option Int} (h : Is L m f) (hL : L ≤ 1000) {now : Int} (h0 : 0 ≤ now ∧ now ≤ 10000000000) {k : Nat} (hk : L < k) (hf : ∀ x, f x ≠ some (now + 1)) :
    ∃ m', Tick.f k now m = some ([], now + 1, m') ∧ Is L m' f := by
  obtain ⟨m', h1, h2, -⟩ := tick_eq h hL h0 hk (l := []) List.Pairwise.nil (fun x => by simp [hf x])
  exact ⟨m', h1, h2.ext (fun x => by rw [if_neg (hf x)])⟩
theorem same_l1 (l : List Int) (hl : l.length ≤ 100000) : ∀ (d k i : Nat), i + d = l.length → d < k → SameIds.l1 k l l (i : Int) = some true := by
  intro d
  induction d with
  | zero =>
    intro k i hi hk
    obtain ⟨k, rfl⟩ : ∃ q, k = q + 1 := ⟨k - 1, by omega⟩
    rw [SameIds.l1, iff_ (df (by omega))]
  | succ d ih =>
    intro k i hi hk
    obtain ⟨k, rfl⟩ : ∃ q, k = q + 1 := ⟨k - 1, by omega⟩
    rw [SameIds.l1, ift (dt (by omega)), if_pos (by omega), if_pos (by omega), iff_ (bne_no rfl), w64s (by omega)]
    exact ih k (i + 1) (by omega) (by omega)
theorem same_is (l : List Int) (hl : l.length ≤ 100000) {k : Nat} (hk : l.length < k) : SameIds.f k l l = some true := by
  unfold SameIds.f
  rw [iff_ (bne_no rfl)]
  exact same_l1 l hl l.length k 0 (by omega) hk
theorem alive_is {k : Nat} (hk : 10 < k) : alive.f k = some true := by
  unfold alive.f
  rw [set_is _ _ (by decide) (by decide), Option.bind_some, iff_ (by rfl), set_is _ _ (by decide) (by decide), Option.bind_some, iff_ (by rfl), set_is _ _ (by decide) (by decide), Option.bind_some, iff_ (by rfl)]
  have h1 := ((Is.nil.up 7 (0 + 2) (by decide)).up 5 (0 + 2) (by decide)).up 6 (0 + 1) (by decide)
  obtain ⟨m1, e1, h2, -⟩ := tick_eq h1 (by decide) (now := 0) (by decide) (k := k) (by omega) (l := [6]) (by simp) (fun x => by
    simp only [List.mem_singleton]
    by_cases a6 : x = 6 <;> by_cases a5 : x = 5 <;> by_cases a7 : x = 7 <;> simp [a6, a5, a7])
  simp only
  rw [e1, Option.bind_some]
  have e2 : lkM m1 7 = some 2 := by rw [h2.lk]; decide
  simp only
  rw [left_yes e2 (by decide) (by decide), Option.bind_some]
  obtain ⟨m2, e3, h3, -⟩ := tick_eq h2 (by decide) (now := 0 + 1) (by decide) (k := k) (by omega) (l := [5, 7]) (by simp) (fun x => by
    simp only [List.mem_cons, List.not_mem_nil, or_false]
    by_cases a6 : x = 6 <;> by_cases a5 : x = 5 <;> by_cases a7 : x = 7 <;> simp [a6, a5, a7])
  simp only
  rw [e3, Option.bind_some]
  have e4 : lkM m2 7 = none := by rw [h3.lk]; decide
  simp only
  rw [left_no e4, Option.bind_some, same_is [6] (by decide) (by simp; omega), Option.bind_some, iff_ (by rfl)]
  simp only
  rw [iff_ (by decide), iff_ (by decide), same_is [5, 7] (by decide) (by simp; omega), Option.bind_some, iff_ (by rfl), iff_ (by rfl)]
  rw [set_is _ _ (by decide) (by decide), Option.bind_some, iff_ (by rfl), set_is _ _ (by simp only; decide) (by decide), Option.bind_some, iff_ (by rfl)]
  have h4 := (h3.up 1 (0 + 1 + 1 + 3) (by decide)).up 1 (0 + 1 + 1 + 1) (by decide)
  obtain ⟨m3, e5, h5, -⟩ := tick_eq h4 (by decide) (now := 0 + 1 + 1) (by decide) (k := k) (by omega) (l := [1]) (by simp) (fun x => by
    simp only [List.mem_singleton]
    by_cases a1 : x = 1 <;> by_cases a6 : x = 6 <;> by_cases a5 : x = 5 <;> by_cases a7 : x = 7 <;> simp [a1, a6, a5, a7])
  simp only
  rw [e5, Option.bind_some, same_is [1] (by decide) (by simp; omega), Option.bind_some, if_pos rfl]
  have e6 : lkM m3 1 = none := by rw [h5.lk]; decide
  simp only
  rw [clear_no e6, Option.bind_some, if_pos (by rfl), set_bad _ _ (by decide), Option.bind_some, if_pos (by rfl), set_bad _ _ (by decide), Option.bind_some]
  rfl

theorem apart_l2 (kl1 : Int → List (Int × Int) → Int → List (Int × Int) → Int → Option Bool) (l : List Int) (hl : l.length ≤ 1000) (now : Int) (m : List (Int × Int)) (x14 y8 x12 : Int) (p13 m2 : List (Int × Int)) (b14 : 0 ≤ x14 ∧ x14 ≤ 1000)
    (ht : decide ((1000 : Int) ∈ l) = (x14 == y8)) (hn : ∀ k, 1 ≤ k → Tick.f k x12 p13 = some ([], x12 + 1, m2)) (hr : kl1 now m (x12 + 1) m2 (x14 + 1) = some true) :
    ∀ (d k i : Nat) (b : Bool), i + d = l.length → d + 1 < k → b = decide ((1000 : Int) ∈ l.take i) → ClocksApart.l2 k kl1 (l, now, m) x14 y8 x12 p13 b i = some true := by
  intro d
  induction d with
  | zero =>
    intro k i b hi hk hb
    obtain ⟨k, rfl⟩ : ∃ q, k = q + 1 := ⟨k - 1, by omega⟩
    rw [List.take_of_length_le (by omega), ht] at hb
    rw [ClocksApart.l2, iff_ (df (by simp only; omega)), iff_ (by rw [hb]; simp), hn k (by omega), Option.bind_some, iff_ (by rfl), w64 (by omega) (by omega)]
    exact hr
  | succ d ih =>
    intro k i b hi hk hb
    obtain ⟨k, rfl⟩ : ∃ q, k = q + 1 := ⟨k - 1, by omega⟩
    have hil : i < l.length := by omega
    have ht1 : l.take (i + 1) = l.take i ++ [l[i]] := List.take_succ_eq_append_getElem hil
    rw [ClocksApart.l2, ift (dt (by simp only; omega))]
    unfold ClocksApart.j2
    by_cases hbt : b = true
    · rw [if_pos hbt, w64s (by omega)]
      refine ih k (i + 1) true (by omega) (by omega) ?_
      have : (1000 : Int) ∈ l.take i := by rw [hbt] at hb; simpa using hb.symm
      rw [ht1]
      exact (decide_eq_true (List.mem_append.2 (.inl this))).symm
    · rw [if_neg hbt, if_pos (by simp only; omega), lt_is rfl, w64s (by omega)]
      refine ih k (i + 1) _ (by omega) (by omega) ?_
      have hno : (1000 : Int) ∉ l.take i := fun q => hbt (by rw [hb]; exact decide_eq_true q)
      rw [ht1, Int.toNat_natCast, List.getD_eq_getElem?_getD, List.getElem?_eq_getElem hil, Option.getD_some]
      by_cases h1 : l[i] = 1000
      · rw [beq_yes h1, h1]; simp
      · rw [beq_no h1]
        refine (decide_eq_false ?_).symm
        rw [List.mem_append, List.mem_singleton, not_or]
        exact ⟨hno, fun e => h1 e.symm⟩
theorem apart_l1 (n : Int) (hn : 1 ≤ n ∧ n ≤ 40) (l1 : List Int) (v1 : ∀ n ∈ l1, (Lit.int .u8 n).wf = true) (hl : l1.length ≤ 100) :
    ∀ (d k : Nat) (t : Int) (ma mb : List (Int × Int)) (f : Int → Option Int), t + d = n + 1 → 1 ≤ t → d + 300 < k → Is (t.toNat + 1) ma f → f 1000 = some n → Is 0 mb (fun _ => none) → ClocksApart.l1 k n l1 (t - 1) ma (t - 1) mb t = some true := by
  intro d
  induction d with
  | zero =>
    intro k t ma mb f ht h1 hk ha hf hb
    obtain ⟨k, rfl⟩ : ∃ q, k = q + 1 := ⟨k - 1, by omega⟩
    rw [ClocksApart.l1, iff_ (df (by omega))]
  | succ d ih =>
    intro k t ma mb f ht h1 hk ha hf hb
    obtain ⟨k, rfl⟩ : ∃ q, k = q + 1 := ⟨k - 1, by omega⟩
    have hj : ∀ (m : List (Int × Int)) (f : Int → Option Int), Is (t.toNat + 2) m f → f 1000 = some n → ClocksApart.j1 k (ClocksApart.l1 k n l1) t n (t - 1) mb (t - 1) m = some true := by
      intro m f h hf
      have et : t - 1 + 1 = t := by omega
      obtain ⟨l, m', e1, e2, e3, -, e5, -⟩ := tick_is h (by omega) (now := t - 1) ⟨by omega, by omega⟩ (k := k) (by omega)
      obtain ⟨m2, g1, g2⟩ := tick_none hb (by omega) (now := t - 1) ⟨by omega, by omega⟩ (k := 1) (by omega) (fun x => by simp)
      have g3 : ∀ k, 1 ≤ k → Tick.f k (t - 1) mb = some ([], t - 1 + 1, m2) := fun k hk => by
        obtain ⟨m3, g4, g5⟩ := tick_none hb (by omega) (now := t - 1) ⟨by omega, by omega⟩ (k := k) (by omega) (fun x => by simp)
        rw [g4, g2.empty (fun _ => rfl), g5.empty (fun _ => rfl)]
      unfold ClocksApart.j1
      rw [e1, Option.bind_some]
      have hmem : decide ((1000 : Int) ∈ l) = (t == n) := by
        by_cases htn : t = n
        · rw [beq_yes htn, decide_eq_true]
          rw [e3, hf]; congr 1; omega
        · rw [beq_no htn, decide_eq_false]
          rw [e3, hf]
          intro e; injection e with e; omega
      refine apart_l2 _ l (by omega) _ m' t n (t - 1) mb m2 ⟨by omega, by omega⟩ hmem g3 ?_ l.length k 0 false (by omega) (by omega) (by simp)
      by_cases hl' : t = n
      · -- the last one
        obtain ⟨k, rfl⟩ : ∃ q, k = q + 1 := ⟨k - 1, by omega⟩
        rw [ClocksApart.l1, iff_ (df (by omega))]
      · have := ih k (t + 1) m' m2 _ (by omega) (by omega) (by omega) (e2.more (by omega)) (by
          rw [hf, if_neg (fun e => by injection e with e; omega)]) g2
        rw [show t + 1 - 1 = t - 1 + 1 by omega] at this
        exact this
    rw [ClocksApart.l1, ift (dt (by omega)), w64 (by omega) (by omega)]
    by_cases hi : t - 1 < (l1.length : Int)
    · have hy := wf8 v1 (i := (t - 1).toNat) (by omega)
      rw [ift (dt hi), if_pos (by omega), lt_is rfl]
      generalize hyy : l1.getD (t - 1).toNat 0 = y at hy ⊢
      rw [tm (by omega)]
      by_cases he : y % 2 = 0
      · have e1 : Int.tdiv y 2 = y / 2 := Int.tdiv_eq_ediv_of_nonneg (by omega)
        have e2 : IntKind.wrap .u8 (y / 2) = y / 2 := by rw [wu8]; omega
        have e3 : IntKind.wrap .u32 y = y := by rw [IntKind.wrap_u32]; omega
        rw [ift (beq_yes he), e1, e2, e3, w64 (x := y / 2) (by omega) (by omega), tm (by omega), w64 (by omega) (by omega), set_is _ _ ⟨by omega, by omega⟩ ⟨by omega, by omega⟩, Option.bind_some]
        exact hj _ _ (ha.up y _ ⟨by omega, by omega⟩) (by rw [if_neg (by omega), hf])
      · have e1 : IntKind.wrap .u8 (y - 1) = y - 1 := by rw [wu8]; omega
        have e3 : IntKind.wrap .u32 (y - 1) = y - 1 := by rw [IntKind.wrap_u32]; omega
        rw [iff_ (beq_no he), e1, e3]
        cases hlk : lkM ma (y - 1) with
        | none =>
          rw [clear_no hlk, Option.bind_some]
          exact hj _ _ (ha.more (by omega)) hf
        | some v =>
          rw [clear_yes hlk, Option.bind_some]
          exact hj _ _ ((ha.del (y - 1)).more (by omega)) (by rw [if_neg (by omega), hf])
    · rw [iff_ (df hi)]
      exact hj _ _ (ha.more (by omega)) hf
theorem ClocksApart_pure (a0 : Int) (l1 : List Int) (v0 : (Lit.int .u8 a0).wf = true) (hy1 : l1.length ≤ 140737488351232) (v1 : ∀ n ∈ l1, (Lit.int .u8 n).wf = true) : ∃ k, ClocksApart.f k a0 l1 = some true := by
  refine ⟨1000, ?_⟩
  have b0 := wfu8 v0
  unfold ClocksApart.f
  rw [alive_is (by omega), Option.bind_some, iff_ (by rfl)]
  by_cases hl : l1.length ≤ 100
  · rw [iff_ (df (by omega)), tm (by omega), w64 (x := a0 % 40) (by omega) (by omega), w64 (by omega) (by omega), lt_is rfl, set_is _ _ (by decide) (by omega), Option.bind_some, iff_ (by rfl)]
    have h := Is.nil.up 1000 (0 + (1 + a0 % 40)) (by omega)
    exact apart_l1 (1 + a0 % 40) (by omega) l1 v1 hl (1 + a0 % 40).toNat 1000 1 _ _ _ (by omega) (by omega) (by omega) (h.more (by decide)) (by rw [if_pos rfl]; congr 1; omega) Is.nil
  · rw [ift (dt (by omega)), Option.bind_some]
end Go.Proofs.Ytlhdofkdjlpheaa.Pl
