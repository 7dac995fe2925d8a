/- The plain law of RingsStand. -/
import Derived.Test.YtjdholnlbhkmeaaDRingsStand
import Derived.Test.YtjdholnlbhkmeaaOg
import Derived.IntWalk
namespace Go.Proofs.Ytjdholnlbhkmeaa.Pl
open Go Go.RowKit Sx Base Own

theorem same_l1 (l : List Int) (hl : l.length ≤ 100000) : ∀ (d k i : Nat), i + d = l.length → d < k → SameIds.l1 k l l (i : Int) = some true := by
  intro d
  induction d with
  | zero =>
    intro k i hi hk
    obtain ⟨k, rfl⟩ : ∃ q, k = q + 1 := ⟨k - 1, by omega⟩
    rw [SameIds.l1, iff_ (df (by omega))]
  | succ d ih =>
    intro k i hi hk
    obtain ⟨k, rfl⟩ : ∃ q, k = q + 1 := ⟨k - 1, by omega⟩
    rw [SameIds.l1, ift (dt (by omega)), if_pos (by omega), if_pos (by omega), iff_ (bne_no rfl), w64s (by omega)]
    exact ih k (i + 1) (by omega) (by omega)
theorem same_is (l : List Int) (hl : l.length ≤ 100000) {k : Nat} (hk : l.length < k) : SameIds.f k l l = some true := by
  unfold SameIds.f
  rw [iff_ (bne_no rfl)]
  exact same_l1 l hl l.length k 0 (by omega) hk
theorem alive_is {k : Nat} (hk : 10 < k) : alive.f k = some true := by
  have o1 : ordR [1, 2, 5] [2, 3, 3] = some [3, 2, 1, 5] := by
    rw [ordR_eq (l0 := [1, 2, 5]) (l1 := [2, 3, 3]) rfl, ordF_eq (W := [1, 2, 3, 5]) (by simp) (fun x => by
      simp only [nodeOf, List.zip_cons_cons, List.zip_nil_right, List.mem_cons, List.not_mem_nil, or_false, exists_eq_or_imp, exists_eq_left]
      omega)]
    decide
  have o2 : ordR [1, 2] [2, 1] = none := by
    rw [ordR_eq (l0 := [1, 2]) (l1 := [2, 1]) rfl, ordF_eq (W := [1, 2]) (by simp) (fun x => by
      simp only [nodeOf, List.zip_cons_cons, List.zip_nil_right, List.mem_cons, List.not_mem_nil, or_false, exists_eq_or_imp, exists_eq_left]
      omega)]
    decide
  have o3 : ordR [1] [1] = none := by
    rw [ordR_eq rfl, ordF_eq (W := [1]) (by simp) (fun x => by
      simp only [nodeOf, List.zip_cons_cons, List.zip_nil_right, List.mem_cons, List.not_mem_nil, or_false, exists_eq_left]
      omega)]
    decide
  have o4 : ordR [] [] = some [] := by
    rw [ordR_eq rfl, ordF_eq (W := []) (by simp) (fun x => by simp [nodeOf])]
    rfl
  unfold alive.f
  rw [if_pos (by decide), lt_is (v := true) (by decide), lt_is rfl, if_pos (by decide), lt_is (v := false) (by decide), lt_is rfl, if_pos (by decide), lt_is (v := true) (by decide), lt_is rfl, if_pos (by decide), lt_is (v := false) (by decide), lt_is (v := 1) (by decide)]
  rw [if_pos (by decide), lt_is o1, if_pos (by decide), lt_is o2, if_pos (by decide), lt_is o3, if_pos (by decide), lt_is o4, if_pos rfl, if_pos (by rfl), if_pos rfl, if_pos (by rfl), if_pos (by rfl)]
  simp only [Option.getD_some]
  rw [same_is [3, 2, 1, 5] (by decide) (by simp; omega), Option.bind_some, if_pos rfl, if_pos (by rfl), if_pos (by rfl), if_pos (by rfl), lt_is rfl]
  rfl

theorem zip_mem {l0 l1 : List Int} (hl : l0.length = l1.length) {j : Nat} (hj : j < l0.length) : (l0.getD j 0, l1.getD j 0) ∈ l0.zip l1 := by
  have h1 : j < (l0.zip l1).length := by rw [List.length_zip]; omega
  have : (l0.zip l1)[j] = (l0.getD j 0, l1.getD j 0) := by
    rw [List.getElem_zip, List.getD_eq_getElem?_getD, List.getElem?_eq_getElem hj, List.getD_eq_getElem?_getD, List.getElem?_eq_getElem (by omega)]; rfl
  rw [← this]; exact List.getElem_mem h1
theorem mem_zip' {l0 l1 : List Int} (hl : l0.length = l1.length) {a b : Int} (h : (a, b) ∈ l0.zip l1) : ∃ j, j < l0.length ∧ l0.getD j 0 = a ∧ l1.getD j 0 = b := by
  obtain ⟨j, hj, e⟩ := List.getElem_of_mem h
  rw [List.length_zip] at hj
  rw [List.getElem_zip] at e
  injection e with e1 e2
  refine ⟨j, by omega, ?_, ?_⟩
  · rw [List.getD_eq_getElem?_getD, List.getElem?_eq_getElem (by omega)]; exact e1
  · rw [List.getD_eq_getElem?_getD, List.getElem?_eq_getElem (by omega)]; exact e2
theorem ord_len {l0 l1 l : List Int} (hl : l0.length = l1.length) (h : Ord (l0.zip l1) l) : l.length ≤ 2 * l0.length := by
  have h2 := (List.perm_ext_iff_of_nodup h.nodup ((nds_sorted (l0.zip l1)).imp (fun hab e => by omega))).2 fun x => by rw [h.mem, nds_mem]
  have h3 : (nds (l0.zip l1)).length ≤ 2 * (l0.zip l1).length := by
    unfold nds
    rw [risen_len, keysM, List.length_map]
    exact wt_len _
  rw [List.length_zip] at h3
  have := h2.length_eq
  omega
theorem place_l1 (l : List Int) (x : Int) (hl : l.length ≤ 100000) : ∀ (d k i : Nat), i + d = l.length → d < k → x ∉ l.take i → place.l1 k l x i = some (if x ∈ l then (l.idxOf x : Int) else -1) := by
  intro d
  induction d with
  | zero =>
    intro k i hi hk hx
    obtain ⟨k, rfl⟩ : ∃ q, k = q + 1 := ⟨k - 1, by omega⟩
    rw [List.take_of_length_le (by omega)] at hx
    rw [place.l1, iff_ (df (by omega)), if_neg hx]
  | succ d ih =>
    intro k i hi hk hx
    obtain ⟨k, rfl⟩ : ∃ q, k = q + 1 := ⟨k - 1, by omega⟩
    have hil : i < l.length := by omega
    have g : l.getD i 0 = l[i] := by rw [List.getD_eq_getElem?_getD, List.getElem?_eq_getElem hil]; rfl
    rw [place.l1, ift (dt (by omega)), if_pos (by omega), Int.toNat_natCast, g]
    by_cases h : l[i] = x
    · rw [ift (beq_yes h)]
      have hm : x ∈ l := by rw [← h]; exact List.getElem_mem hil
      have hidx : l.idxOf x = i := by
        have h1 : l = l.take i ++ x :: l.drop (i + 1) := by
          conv => lhs; rw [← List.take_append_drop i l, List.drop_eq_getElem_cons hil, h]
        rw [h1, List.idxOf_append, if_neg hx, List.idxOf_cons_self, List.length_take]; omega
      rw [if_pos hm, hidx]
    · rw [iff_ (beq_no h), w64s (by omega)]
      refine ih k (i + 1) (by omega) (by omega) ?_
      rw [List.take_succ_eq_append_getElem hil, List.mem_append, List.mem_singleton, not_or]
      exact ⟨hx, fun e => h e.symm⟩
theorem place_f (l : List Int) (x : Int) (hl : l.length ≤ 100000) {k : Nat} (hk : l.length < k) : place.f k l x = some (if x ∈ l then (l.idxOf x : Int) else -1) := by
  unfold place.f
  exact place_l1 l x hl l.length k 0 (by omega) hk (by simp)
theorem getD_mem' {l : List Int} {i : Nat} (h : i < l.length) : l.getD i 0 ∈ l := by
  rw [List.getD_eq_getElem?_getD, List.getElem?_eq_getElem h]; exact List.getElem_mem h
theorem idx_at {l : List Int} (hn : l.Nodup) {i : Nat} (hi : i < l.length) : l.idxOf l[i] = i := by
  have hm : l[i] ∈ l := List.getElem_mem hi
  have hj := List.idxOf_lt_length_of_mem hm
  have e : l[l.idxOf l[i]] = l[i] := List.getElem_idxOf hj
  rcases Nat.lt_trichotomy (l.idxOf l[i]) i with h | h | h
  · exact absurd e ((List.pairwise_iff_getElem.1 hn) _ _ hj hi h)
  · exact h
  · exact absurd e.symm ((List.pairwise_iff_getElem.1 hn) _ _ hi hj h)
theorem stand_l3 (l l0 l1 : List Int) (hl : l0.length = l1.length) (hb : l0.length ≤ 100) (hll : l.length ≤ 1000) (ho : Ord (l0.zip l1) l) : ∀ (d k i : Nat), i + d = l.length → d + 1200 < k → RingsStand.l3 k (some l) l0 l1 i = some true := by
  intro d
  induction d with
  | zero =>
    intro k i hi hk
    obtain ⟨k, rfl⟩ : ∃ q, k = q + 1 := ⟨k - 1, by omega⟩
    rw [RingsStand.l3, iff_ (df (by simp only [Option.getD_some]; omega))]
  | succ d ih =>
    intro k i hi hk
    obtain ⟨k, rfl⟩ : ∃ q, k = q + 1 := ⟨k - 1, by omega⟩
    have hil : i < l.length := by omega
    have hm := getD_mem' hil
    have hidx : l.idxOf (l.getD i 0) = i := by
      have g : l.getD i 0 = l[i] := by rw [List.getD_eq_getElem?_getD, List.getElem?_eq_getElem hil]; rfl
      rw [g]; exact idx_at ho.nodup hil
    have hnext := ih k (i + 1) (by omega) (by omega)
    unfold RingsStand.l3 RingsStand.j2
    simp only [Option.getD_some, Int.toNat_natCast]
    rw [ift (dt (by omega)), if_pos (by omega), place_f l _ (by omega) (by omega), Option.bind_some, if_pos hm, hidx, iff_ (bne_no rfl), if_pos (by omega), place_f l0 _ (by omega) (by omega), Option.bind_some, w64s (by omega)]
    by_cases h0 : l.getD i 0 ∈ l0
    · rw [if_pos h0, iff_ (df (by omega))]; exact hnext
    · rw [if_neg h0, ift (dt (by omega)), if_pos (by omega), place_f l1 _ (by omega) (by omega), Option.bind_some]
      have h1 : l.getD i 0 ∈ l1 := by
        obtain ⟨⟨a, b⟩, hp, e⟩ := (ho.mem _).1 hm
        rcases e with e | e
        · exact absurd (by rw [← e]; exact (List.of_mem_zip hp).1) h0
        · rw [← e]; exact (List.of_mem_zip hp).2
      rw [if_pos h1, iff_ (df (by omega))]; exact hnext
theorem stand_l2 (l l0 l1 : List Int) (hl : l0.length = l1.length) (hb : l0.length ≤ 100) (hll : l.length ≤ 1000) (ho : Ord (l0.zip l1) l) : ∀ (d k i : Nat), i + d = l0.length → d + 3000 < k → RingsStand.l2 k l0 (some l) l1 i = some true := by
  intro d
  induction d with
  | zero =>
    intro k i hi hk
    obtain ⟨k, rfl⟩ : ∃ q, k = q + 1 := ⟨k - 1, by omega⟩
    rw [RingsStand.l2, iff_ (df (by omega))]
    exact stand_l3 l l0 l1 hl hb hll ho l.length k 0 (by omega) (by omega)
  | succ d ih =>
    intro k i hi hk
    obtain ⟨k, rfl⟩ : ∃ q, k = q + 1 := ⟨k - 1, by omega⟩
    have hm := zip_mem hl (show i < l0.length by omega)
    have m0 : l0.getD i 0 ∈ l := (ho.mem _).2 ⟨_, hm, .inl rfl⟩
    have m1 : l1.getD i 0 ∈ l := (ho.mem _).2 ⟨_, hm, .inr rfl⟩
    have he := ho.edge hm
    unfold RingsStand.l2
    simp only [Option.getD_some, Int.toNat_natCast]
    rw [ift (dt (by omega)), if_pos (by omega), place_f l _ (by omega) (by omega), Option.bind_some, if_pos (by omega), place_f l _ (by omega) (by omega), Option.bind_some, if_pos m0, if_pos m1, iff_ (df (by omega)), iff_ (df (by omega)), iff_ (df (by omega)), w64s (by omega)]
    exact ih k (i + 1) (by omega) (by omega)
theorem stand_l1 (l0 l1 : List Int) (hl : l0.length = l1.length) (hb : l0.length ≤ 100) : ∀ (d k i : Nat) (b : Bool), i + d = l0.length → d + 8000 < k → (b = true → Ring (l0.zip l1)) → (∀ j, j < i → Cms (l0.zip l1) (l1.getD j 0) (l0.getD j 0) → b = true) → RingsStand.l1 k l0 l1 (ordF (l0.zip l1)) b i = some true := by
  intro d
  induction d with
  | zero =>
    intro k i b hi hk h1 h2
    obtain ⟨k, rfl⟩ : ∃ q, k = q + 1 := ⟨k - 1, by omega⟩
    rw [RingsStand.l1, iff_ (df (by omega))]
    cases b with
    | true =>
      have hn : ordF (l0.zip l1) = none := by
        cases h : ordF (l0.zip l1) with
        | none => rfl
        | some l => exact absurd (h1 rfl) (Ord.of h).noRing
      rw [hn, if_pos rfl, if_pos rfl, ift (by rfl), lt_is rfl]; rfl
    | false =>
      have hr : ¬ Ring (l0.zip l1) := by
        rintro ⟨⟨a, c⟩, hp, hc⟩
        obtain ⟨j, hj, e1, e2⟩ := mem_zip' hl hp
        have := h2 j (by omega) (by rw [e1, e2]; exact hc)
        cases this
      obtain ⟨l, ho⟩ := Option.isSome_iff_exists.1 ((ord_iff _).2 hr)
      have hO := Ord.of ho
      have hlen := ord_len hl hO
      rw [ho, iff_ rfl, iff_ (by rfl)]
      exact stand_l2 l l0 l1 hl hb (by omega) hO l0.length k 0 (by omega) (by omega)
  | succ d ih =>
    intro k i b hi hk h1 h2
    obtain ⟨k, rfl⟩ : ∃ q, k = q + 1 := ⟨k - 1, by omega⟩
    have hm := zip_mem hl (show i < l0.length by omega)
    unfold RingsStand.l1 RingsStand.j1
    simp only [Int.toNat_natCast]
    rw [ift (dt (by omega)), if_pos (by omega), if_pos (by omega), if_pos (by omega), if_pos hl, if_pos hl, lt_is rfl, lt_is rfl, iff_ (by rfl), w64s (by omega)]
    cases b with
    | true =>
      rw [if_pos rfl]
      exact ih k (i + 1) true (by omega) (by omega) h1 (fun _ _ _ => rfl)
    | false =>
      rw [iff_ rfl]
      refine ih k (i + 1) _ (by omega) (by omega) (fun h => ⟨_, hm, (comes_iff _ _ _).1 h⟩) (fun j hj hc => ?_)
      by_cases hji : j = i
      · subst hji; exact (comes_iff _ _ _).2 hc
      · have := h2 j (by omega) hc
        cases this
theorem RingsStand_pure (l0 : List Int) (l1 : List Int) (hy0 : l0.length ≤ 140737488351232) (v0 : ∀ n ∈ l0, (Lit.int .u32 n).wf = true) (hy1 : l1.length ≤ 140737488351232) (v1 : ∀ n ∈ l1, (Lit.int .u32 n).wf = true) : ∃ k, RingsStand.f k l0 l1 = some true := by
  refine ⟨10000, ?_⟩
  unfold RingsStand.f
  rw [alive_is (by omega), Option.bind_some, iff_ (by rfl)]
  by_cases h0 : l0.length ≤ 40
  · rw [iff_ (df (by omega))]
    by_cases h1 : l1.length ≤ 40
    · rw [iff_ (df (by omega)), if_pos (by omega), lt_is rfl]
      by_cases hl : l0.length = l1.length
      · rw [iff_ (bne_no (by omega)), ordR_eq hl]
        exact stand_l1 l0 l1 hl (by omega) l0.length 10000 0 false (by omega) (by omega) (fun h => by cases h) (fun j hj => by omega)
      · have hn : ordR l0 l1 = none := if_neg hl
        rw [ift (by simp; omega), hn, ift (by rfl), lt_is rfl]; rfl
    · rw [ift (dt (by omega)), Option.bind_some]
  · rw [ift (dt (by omega)), Option.bind_some]
end Go.Proofs.Ytjdholnlbhkmeaa.Pl
