/- The plain law of RingsWay. -/
import Derived.Test.YtjdholnlbhkmeaaDRingsWay
import Derived.Test.YtjdholnlbhkmeaaOg
import Derived.IntWalk
namespace Go.Proofs.Ytjdholnlbhkmeaa.Pl
open Go Go.RowKit Sx Base Own

theorem same_l1 (l : List Int) (hl : l.length ≤ 100000) : ∀ (d k i : Nat), i + d = l.length → d < k → SameIds.l1 k l l (i : Int) = some true := by
  intro d
  induction d with
  | zero =>
    intro k i hi hk
    obtain ⟨k, rfl⟩ : ∃ q, k = q + 1 := ⟨k - 1, by omega⟩
    rw [SameIds.l1, iff_ (df (by omega))]
  | succ d ih =>
    intro k i hi hk
    obtain ⟨k, rfl⟩ : ∃ q, k = q + 1 := ⟨k - 1, by omega⟩
    rw [SameIds.l1, ift (dt (by omega)), if_pos (by omega), if_pos (by omega), iff_ (bne_no rfl), w64s (by omega)]
    exact ih k (i + 1) (by omega) (by omega)
theorem same_is (l : List Int) (hl : l.length ≤ 100000) {k : Nat} (hk : l.length < k) : SameIds.f k l l = some true := by
  unfold SameIds.f
  rw [iff_ (bne_no rfl)]
  exact same_l1 l hl l.length k 0 (by omega) hk
theorem alive_is {k : Nat} (hk : 10 < k) : alive.f k = some true := by
  have o1 : ordR [1, 2, 5] [2, 3, 3] = some [3, 2, 1, 5] := by
    rw [ordR_eq (l0 := [1, 2, 5]) (l1 := [2, 3, 3]) rfl, ordF_eq (W := [1, 2, 3, 5]) (by simp) (fun x => by
      simp only [nodeOf, List.zip_cons_cons, List.zip_nil_right, List.mem_cons, List.not_mem_nil, or_false, exists_eq_or_imp, exists_eq_left]
      omega)]
    decide
  have o2 : ordR [1, 2] [2, 1] = none := by
    rw [ordR_eq (l0 := [1, 2]) (l1 := [2, 1]) rfl, ordF_eq (W := [1, 2]) (by simp) (fun x => by
      simp only [nodeOf, List.zip_cons_cons, List.zip_nil_right, List.mem_cons, List.not_mem_nil, or_false, exists_eq_or_imp, exists_eq_left]
      omega)]
    decide
  have o3 : ordR [1] [1] = none := by
    rw [ordR_eq rfl, ordF_eq (W := [1]) (by simp) (fun x => by
      simp only [nodeOf, List.zip_cons_cons, List.zip_nil_right, List.mem_cons, List.not_mem_nil, or_false, exists_eq_left]
      omega)]
    decide
  have o4 : ordR [] [] = some [] := by
    rw [ordR_eq rfl, ordF_eq (W := []) (by simp) (fun x => by simp [nodeOf])]
    rfl
  unfold alive.f
  rw [if_pos (by decide), lt_is (v := true) (by decide), lt_is rfl, if_pos (by decide), lt_is (v := false) (by decide), lt_is rfl, if_pos (by decide), lt_is (v := true) (by decide), lt_is rfl, if_pos (by decide), lt_is (v := false) (by decide), lt_is (v := 1) (by decide)]
  rw [if_pos (by decide), lt_is o1, if_pos (by decide), lt_is o2, if_pos (by decide), lt_is o3, if_pos (by decide), lt_is o4, if_pos rfl, if_pos (by rfl), if_pos rfl, if_pos (by rfl), if_pos (by rfl)]
  simp only [Option.getD_some]
  rw [same_is [3, 2, 1, 5] (by decide) (by simp; omega), Option.bind_some, if_pos rfl, if_pos (by rfl), if_pos (by rfl), if_pos (by rfl), lt_is rfl]
  rfl

theorem zip_snoc {l0 l1 : List Int} (h : l0.length = l1.length) (a b : Int) : (l0 ++ [a]).zip (l1 ++ [b]) = l0.zip l1 ++ [(a, b)] := by
  rw [List.zip_append h]; rfl
theorem cms_more {es : List (Int × Int)} {a b x y : Int} (h : Cms (es ++ [(a, b)]) x y) : Cms es x y ∨ (Cms es x a ∧ Cms es b y) := by
  induction h with
  | here => exact .inl .here
  | step _ hm ih =>
    rcases List.mem_append.1 hm with hm | hm
    · rcases ih with ih | ⟨h1, h2⟩
      · exact .inl (.step ih hm)
      · exact .inr ⟨h1, .step h2 hm⟩
    · rw [List.mem_singleton] at hm
      injection hm with e1 e2
      subst e1 e2
      rcases ih with ih | ⟨h1, h2⟩
      · exact .inr ⟨ih, .here⟩
      · exact .inr ⟨h1, .here⟩
theorem cms_less {es : List (Int × Int)} {p : Int × Int} {x y : Int} (h : Cms es x y) : Cms (es ++ [p]) x y := h.mono fun q hq => List.mem_append_left _ hq
theorem cms_edge {es : List (Int × Int)} {a b : Int} : Cms (es ++ [(a, b)]) a b := .step .here (List.mem_append_right _ (List.mem_singleton_self _))
theorem RingsWay_pure (l0 : List Int) (l1 : List Int) (l2 : List Int) (hy0 : l0.length ≤ 140737488351232) (v0 : ∀ n ∈ l0, (Lit.int .u32 n).wf = true) (hy1 : l1.length ≤ 140737488351232) (v1 : ∀ n ∈ l1, (Lit.int .u32 n).wf = true) (n2 : l2.length = 3) (v2 : ∀ n ∈ l2, (Lit.int .u32 n).wf = true) : ∃ k, RingsWay.f k l0 l1 l2 = some true := by
  refine ⟨1000, ?_⟩
  unfold RingsWay.f
  rw [alive_is (by omega), Option.bind_some, iff_ (by rfl)]
  by_cases h0 : l0.length ≤ 40
  · rw [iff_ (df (by omega))]
    by_cases hl : l0.length = l1.length
    · have hle : ∀ x : Int, [x].length = 1 := fun _ => rfl
      rw [iff_ (bne_no (by omega)), if_pos (by omega), if_pos (by omega), if_pos (by omega), lt_is rfl, lt_is rfl, if_pos (by omega), if_pos (by omega), if_pos (by omega), lt_is rfl, lt_is rfl, if_pos (by omega), if_pos (by omega), if_pos (by omega), lt_is rfl, lt_is rfl, if_pos (by omega), if_pos (by omega), if_pos (by omega), lt_is rfl, lt_is rfl]
      rw [if_pos hl, if_pos hl, if_pos hl, if_pos hl, if_pos hl]
      show (if ((0 : Int) != 0) = true then none else _) = some true
      rw [iff_ (by rfl)]
      rw [iff_ (by rfl), iff_ (by rfl), iff_ (by rfl)]
      have e12 : comesB (l0.zip l1) (l2.getD (Int.toNat 0) 0) (l2.getD (Int.toNat 0) 0) = true := (comes_iff _ _ _).2 .here
      rw [iff_ (by rw [e12]; rfl)]
      have hj : RingsWay.j1 l2 l0 l1 (comesB (l0.zip l1) (l2.getD (Int.toNat 0) 0) (l2.getD (Int.toNat 2) 0)) (comesB (l0.zip l1) (l2.getD (Int.toNat 1) 0) (l2.getD (Int.toNat 2) 0)) = some true := by
        unfold RingsWay.j1
        rw [if_pos (by omega), if_pos (by omega), if_pos (by rw [hle]; omega), if_pos (by omega), if_pos (by omega), if_pos (by rw [hle]; omega), if_pos (by omega), if_pos (by omega), if_pos (by rw [List.length_append, hle]; omega), lt_is rfl, lt_is rfl, if_pos (by omega), if_pos (by omega), if_pos (by rw [List.length_append, hle]; omega), lt_is rfl, lt_is rfl]
        have hxl : (l0 ++ [l2.getD (Int.toNat 0) 0]).length = (l1 ++ [l2.getD (Int.toNat 1) 0]).length := by rw [List.length_append, List.length_append, hle, hle, hl]
        simp only [if_pos hxl]
        rw [ift (by rfl), ift (by rfl), zip_snoc hl]
        generalize l2.getD (Int.toNat 0) 0 = p
        generalize l2.getD (Int.toNat 1) 0 = q
        generalize l2.getD (Int.toNat 2) 0 = r
        rw [if_pos ((comes_iff _ _ _).2 cms_edge)]
        have e : comesB (l0.zip l1 ++ [(p, q)]) p r = (comesB (l0.zip l1) p r || comesB (l0.zip l1) q r) := bool_ext (by
          rw [comes_iff, Bool.or_eq_true, comes_iff, comes_iff]
          constructor
          · intro h
            rcases cms_more h with h | ⟨_, h⟩
            · exact .inl h
            · exact .inr h
          · rintro (h | h)
            · exact cms_less h
            · exact Cms.trans cms_edge (cms_less h))
        rw [e]
        cases comesB (l0.zip l1) p r with
        | true => rw [if_pos rfl]; rfl
        | false => rw [iff_ rfl]; simp
      by_cases h6 : comesB (l0.zip l1) (l2.getD (Int.toNat 0) 0) (l2.getD (Int.toNat 1) 0) = true
      · rw [if_pos h6]
        by_cases h8 : comesB (l0.zip l1) (l2.getD (Int.toNat 1) 0) (l2.getD (Int.toNat 2) 0) = true
        · rw [if_pos h8]
          have h10 : comesB (l0.zip l1) (l2.getD (Int.toNat 0) 0) (l2.getD (Int.toNat 2) 0) = true := (comes_iff _ _ _).2 (((comes_iff _ _ _).1 h6).trans ((comes_iff _ _ _).1 h8))
          rw [iff_ (by rw [h10]; rfl)]
          exact hj
        · rw [if_neg h8]; exact hj
      · rw [if_neg h6]; exact hj
    · rw [ift (by simp; omega), Option.bind_some]
  · rw [ift (dt (by omega)), Option.bind_some]
end Go.Proofs.Ytjdholnlbhkmeaa.Pl
