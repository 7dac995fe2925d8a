/- The plain law of RingsLeast. -/
import Derived.Test.YtjdholnlbhkmeaaDRingsLeast
import Derived.Test.YtjdholnlbhkmeaaOg
import Derived.IntWalk
namespace Go.Proofs.Ytjdholnlbhkmeaa.Pl
open Go Go.RowKit Sx Base Own

theorem same_l1 (l : List Int) (hl : l.length ≤ 100000) : ∀ (d k i : Nat), i + d = l.length → d < k → SameIds.l1 k l l (i : Int) = some true := by
  intro d
  induction d with
  | zero =>
    intro k i hi hk
    obtain ⟨k, rfl⟩ : ∃ q, k = q + 1 := ⟨k - 1, by omega⟩
    rw [SameIds.l1, iff_ (df (by omega))]
  | succ d ih =>
    intro k i hi hk
    obtain ⟨k, rfl⟩ : ∃ q, k = q + 1 := ⟨k - 1, by omega⟩
    rw [SameIds.l1, ift (dt (by omega)), if_pos (by omega), if_pos (by omega), iff_ (bne_no rfl), w64s (by omega)]
    exact ih k (i + 1) (by omega) (by omega)
theorem same_is (l : List Int) (hl : l.length ≤ 100000) {k : Nat} (hk : l.length < k) : SameIds.f k l l = some true := by
  unfold SameIds.f
  rw [iff_ (bne_no rfl)]
  exact same_l1 l hl l.length k 0 (by omega) hk
theorem alive_is {k : Nat} (hk : 10 < k) : alive.f k = some true := by
  have o1 : ordR [1, 2, 5] [2, 3, 3] = some [3, 2, 1, 5] := by
    rw [ordR_eq (l0 := [1, 2, 5]) (l1 := [2, 3, 3]) rfl, ordF_eq (W := [1, 2, 3, 5]) (by simp) (fun x => by
      simp only [nodeOf, List.zip_cons_cons, List.zip_nil_right, List.mem_cons, List.not_mem_nil, or_false, exists_eq_or_imp, exists_eq_left]
      omega)]
    decide
  have o2 : ordR [1, 2] [2, 1] = none := by
    rw [ordR_eq (l0 := [1, 2]) (l1 := [2, 1]) rfl, ordF_eq (W := [1, 2]) (by simp) (fun x => by
      simp only [nodeOf, List.zip_cons_cons, List.zip_nil_right, List.mem_cons, List.not_mem_nil, or_false, exists_eq_or_imp, exists_eq_left]
      omega)]
    decide
  have o3 : ordR [1] [1] = none := by
    rw [ordR_eq rfl, ordF_eq (W := [1]) (by simp) (fun x => by
      simp only [nodeOf, List.zip_cons_cons, List.zip_nil_right, List.mem_cons, List.not_mem_nil, or_false, exists_eq_left]
      omega)]
    decide
  have o4 : ordR [] [] = some [] := by
    rw [ordR_eq rfl, ordF_eq (W := []) (by simp) (fun x => by simp [nodeOf])]
    rfl
  unfold alive.f
  rw [if_pos (by decide), lt_is (v := true) (by decide), lt_is rfl, if_pos (by decide), lt_is (v := false) (by decide), lt_is rfl, if_pos (by decide), lt_is (v := true) (by decide), lt_is rfl, if_pos (by decide), lt_is (v := false) (by decide), lt_is (v := 1) (by decide)]
  rw [if_pos (by decide), lt_is o1, if_pos (by decide), lt_is o2, if_pos (by decide), lt_is o3, if_pos (by decide), lt_is o4, if_pos rfl, if_pos (by rfl), if_pos rfl, if_pos (by rfl), if_pos (by rfl)]
  simp only [Option.getD_some]
  rw [same_is [3, 2, 1, 5] (by decide) (by simp; omega), Option.bind_some, if_pos rfl, if_pos (by rfl), if_pos (by rfl), if_pos (by rfl), lt_is rfl]
  rfl

theorem zip_mem {l0 l1 : List Int} (hl : l0.length = l1.length) {j : Nat} (hj : j < l0.length) : (l0.getD j 0, l1.getD j 0) ∈ l0.zip l1 := by
  have h1 : j < (l0.zip l1).length := by rw [List.length_zip]; omega
  have : (l0.zip l1)[j] = (l0.getD j 0, l1.getD j 0) := by
    rw [List.getElem_zip, List.getD_eq_getElem?_getD, List.getElem?_eq_getElem hj, List.getD_eq_getElem?_getD, List.getElem?_eq_getElem (by omega)]; rfl
  rw [← this]; exact List.getElem_mem h1
theorem mem_zip' {l0 l1 : List Int} (hl : l0.length = l1.length) {a b : Int} (h : (a, b) ∈ l0.zip l1) : ∃ j, j < l0.length ∧ l0.getD j 0 = a ∧ l1.getD j 0 = b := by
  obtain ⟨j, hj, e⟩ := List.getElem_of_mem h
  rw [List.length_zip] at hj
  rw [List.getElem_zip] at e
  injection e with e1 e2
  refine ⟨j, by omega, ?_, ?_⟩
  · rw [List.getD_eq_getElem?_getD, List.getElem?_eq_getElem (by omega)]; exact e1
  · rw [List.getD_eq_getElem?_getD, List.getElem?_eq_getElem (by omega)]; exact e2
theorem ord_len {l0 l1 l : List Int} (hl : l0.length = l1.length) (h : Ord (l0.zip l1) l) : l.length ≤ 2 * l0.length := by
  have h2 := (List.perm_ext_iff_of_nodup h.nodup ((nds_sorted (l0.zip l1)).imp (fun hab e => by omega))).2 fun x => by rw [h.mem, nds_mem]
  have h3 : (nds (l0.zip l1)).length ≤ 2 * (l0.zip l1).length := by
    unfold nds
    rw [risen_len, keysM, List.length_map]
    exact wt_len _
  rw [List.length_zip] at h3
  have := h2.length_eq
  omega
theorem least_l2 (kl1 : Int → Option Bool) (l l0 l1 : List Int) (hl : l0.length = l1.length) (hb : l0.length ≤ 100) (hll : l.length ≤ 1000) (i : Nat) (hi : 1 ≤ i ∧ i < l.length) (hr : kl1 ((i + 1 : Nat) : Int) = some true) :
    ∀ (d k j : Nat) (b : Bool), j + d = l0.length → d < k → (b = true ∨ ∃ q, j ≤ q ∧ q < l0.length ∧ l0.getD q 0 = l.getD i 0 ∧ l1.getD q 0 = l.getD (i - 1) 0) → RingsLeast.l2 k kl1 l0 i (some l) l1 b j = some true := by
  intro d
  induction d with
  | zero =>
    intro k j b hj hk h
    obtain ⟨k, rfl⟩ : ∃ q, k = q + 1 := ⟨k - 1, by omega⟩
    have hbt : b = true := by
      rcases h with h | ⟨q, h1, h2, _⟩
      · exact h
      · omega
    unfold RingsLeast.l2 RingsLeast.j1
    rw [iff_ (df (by omega)), iff_ (by rw [hbt]; rfl), w64s (by omega)]
    exact hr
  | succ d ih =>
    intro k j b hj hk h
    obtain ⟨k, rfl⟩ : ∃ q, k = q + 1 := ⟨k - 1, by omega⟩
    unfold RingsLeast.l2 RingsLeast.j2
    rw [ift (dt (by omega))]
    by_cases hbt : b = true
    · rw [if_pos hbt, w64s (by omega)]
      exact ih k (j + 1) true (by omega) (by omega) (.inl rfl)
    · rw [if_neg hbt]
      have h' := h.resolve_left hbt
      have ew : IntKind.wrap .i64 ((i : Int) - 1) = ((i - 1 : Nat) : Int) := by rw [w64 (by omega) (by omega)]; omega
      simp only [Option.getD_some, ew, Int.toNat_natCast]
      rw [if_pos (by omega), if_pos (by omega)]
      by_cases he : l0.getD j 0 = l.getD i 0
      · rw [ift (beq_yes he), if_pos (by omega), if_pos (by omega), w64s (by omega)]
        refine ih k (j + 1) _ (by omega) (by omega) ?_
        by_cases he2 : l1.getD j 0 = l.getD (i - 1) 0
        · exact .inl (beq_yes he2)
        · refine .inr ?_
          obtain ⟨q, h1, h2, h3, h4⟩ := h'
          have : q ≠ j := fun e => he2 (by rw [← e]; exact h4)
          exact ⟨q, by omega, h2, h3, h4⟩
      · rw [iff_ (beq_no he), w64s (by omega)]
        refine ih k (j + 1) _ (by omega) (by omega) (.inr ?_)
        obtain ⟨q, h1, h2, h3, h4⟩ := h'
        have : q ≠ j := fun e => he (by rw [← e]; exact h3)
        exact ⟨q, by omega, h2, h3, h4⟩
theorem least_l1 (l l0 l1 : List Int) (hl : l0.length = l1.length) (hb : l0.length ≤ 100) (hll : l.length ≤ 1000) (ho : Ord (l0.zip l1) l) :
    ∀ (d k i : Nat), i + d = l.length + 1 → 1 ≤ i → d + 500 < k → RingsLeast.l1 k (some l) l0 l1 i = some true := by
  intro d
  induction d with
  | zero =>
    intro k i hi h1 hk
    obtain ⟨k, rfl⟩ : ∃ q, k = q + 1 := ⟨k - 1, by omega⟩
    rw [RingsLeast.l1, iff_ (df (by simp only [Option.getD_some]; omega))]
  | succ d ih =>
    intro k i hi h1 hk
    obtain ⟨k, rfl⟩ : ∃ q, k = q + 1 := ⟨k - 1, by omega⟩
    by_cases hlt : i < l.length
    · have ew : IntKind.wrap .i64 ((i : Int) - 1) = ((i - 1 : Nat) : Int) := by rw [w64 (by omega) (by omega)]; omega
      have hnext := ih k (i + 1) (by omega) (by omega) (by omega)
      unfold RingsLeast.l1 RingsLeast.j1
      simp only [Option.getD_some, ew, Int.toNat_natCast]
      rw [ift (dt (by omega)), if_pos (by omega), if_pos (by omega)]
      by_cases hle : l.getD (i - 1) 0 < l.getD i 0
      · rw [ift (dt hle), w64s (by omega)]; exact hnext
      · rw [iff_ (df hle)]
        have g1 : l.getD (i - 1) 0 = l[i - 1] := by rw [List.getD_eq_getElem?_getD, List.getElem?_eq_getElem (by omega)]; rfl
        have g2 : l.getD i 0 = l[i] := by rw [List.getD_eq_getElem?_getD, List.getElem?_eq_getElem hlt]; rfl
        have hs1 : l = l.take (i - 1) ++ l[i - 1] :: l.drop i := by
          conv => lhs; rw [← List.take_append_drop (i - 1) l, List.drop_eq_getElem_cons (by omega : i - 1 < l.length), show i - 1 + 1 = i by omega]
        have hs2 : l = (l.take (i - 1) ++ [l[i - 1]]) ++ l[i] :: l.drop (i + 1) := by
          rw [List.append_assoc, List.singleton_append, ← List.drop_eq_getElem_cons hlt]
          exact hs1
        have hne : l[i - 1] ≠ l[i] := (List.pairwise_iff_getElem.1 ho.nodup) (i - 1) i (by omega) hlt (by omega)
        have hex : ∃ t, (l[i], t) ∈ l0.zip l1 ∧ t ∉ l.take (i - 1) := by
          refine Classical.byContradiction fun hn => ?_
          have := ho.least _ _ _ hs1 l[i] (List.mem_cons_of_mem _ (by rw [List.drop_eq_getElem_cons hlt]; exact List.mem_cons_self)) (fun y hy => Classical.byContradiction fun hy2 => hn ⟨y, hy, hy2⟩)
          rw [g1, g2] at hle
          omega
        obtain ⟨t, ht, ht2⟩ := hex
        have ht3 := ho.free _ _ _ hs2 t ht
        have htx : t = l[i - 1] := by
          rcases List.mem_append.1 ht3 with h | h
          · exact absurd h ht2
          · rwa [List.mem_singleton] at h
        rw [htx] at ht
        obtain ⟨q, hq, e1, e2⟩ := mem_zip' hl ht
        exact least_l2 _ l l0 l1 hl hb hll i ⟨h1, hlt⟩ hnext l0.length k 0 false (by omega) (by omega) (.inr ⟨q, by omega, hq, by rw [e1, g2], by rw [e2, g1]⟩)
    · unfold RingsLeast.l1
      rw [iff_ (df (by simp only [Option.getD_some]; omega))]
theorem RingsLeast_pure (l0 : List Int) (l1 : List Int) (hy0 : l0.length ≤ 140737488351232) (v0 : ∀ n ∈ l0, (Lit.int .u32 n).wf = true) (hy1 : l1.length ≤ 140737488351232) (v1 : ∀ n ∈ l1, (Lit.int .u32 n).wf = true) : ∃ k, RingsLeast.f k l0 l1 = some true := by
  refine ⟨1000, ?_⟩
  unfold RingsLeast.f
  rw [alive_is (by omega), Option.bind_some, iff_ (by rfl)]
  by_cases h0 : l0.length ≤ 40
  · rw [iff_ (df (by omega))]
    by_cases h1 : l1.length ≤ 40
    · rw [iff_ (df (by omega)), if_pos (by omega)]
      cases ho : ordR l0 l1 with
      | none => rw [lt_is rfl, ift (by rfl)]
      | some l =>
        rw [lt_is rfl, iff_ (by rfl)]
        have hl : l0.length = l1.length := by
          refine Classical.byContradiction fun hn => ?_
          unfold ordR at ho
          rw [if_neg hn] at ho; cases ho
        rw [ordR_eq hl] at ho
        have hO := Ord.of ho
        have hlen := ord_len hl hO
        exact least_l1 l l0 l1 hl (by omega) (by omega) hO l.length 1000 1 (by omega) (by omega) (by omega)
    · rw [ift (dt (by omega)), Option.bind_some]
  · rw [ift (dt (by omega)), Option.bind_some]
end Go.Proofs.Ytjdholnlbhkmeaa.Pl
