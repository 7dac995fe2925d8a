/- The plain law of RingsMore. -/
import Derived.Test.YtjdholnlbhkmeaaDRingsMore
import Derived.Test.YtjdholnlbhkmeaaOg
import Derived.IntWalk
namespace Go.Proofs.Ytjdholnlbhkmeaa.Pl
open Go Go.RowKit Sx Base Own

theorem same_l1 (l : List Int) (hl : l.length ≤ 100000) : ∀ (d k i : Nat), i + d = l.length → d < k → SameIds.l1 k l l (i : Int) = some true := by
  intro d
  induction d with
  | zero =>
    intro k i hi hk
    obtain ⟨k, rfl⟩ : ∃ q, k = q + 1 := ⟨k - 1, by omega⟩
    rw [SameIds.l1, iff_ (df (by omega))]
  | succ d ih =>
    intro k i hi hk
    obtain ⟨k, rfl⟩ : ∃ q, k = q + 1 := ⟨k - 1, by omega⟩
    rw [SameIds.l1, ift (dt (by omega)), if_pos (by omega), if_pos (by omega), iff_ (bne_no rfl), w64s (by omega)]
    exact ih k (i + 1) (by omega) (by omega)
theorem same_is (l : List Int) (hl : l.length ≤ 100000) {k : Nat} (hk : l.length < k) : SameIds.f k l l = some true := by
  unfold SameIds.f
  rw [iff_ (bne_no rfl)]
  exact same_l1 l hl l.length k 0 (by omega) hk
theorem alive_is {k : Nat} (hk : 10 < k) : alive.f k = some true := by
  have o1 : ordR [1, 2, 5] [2, 3, 3] = some [3, 2, 1, 5] := by
    rw [ordR_eq (l0 := [1, 2, 5]) (l1 := [2, 3, 3]) rfl, ordF_eq (W := [1, 2, 3, 5]) (by simp) (fun x => by
      simp only [nodeOf, List.zip_cons_cons, List.zip_nil_right, List.mem_cons, List.not_mem_nil, or_false, exists_eq_or_imp, exists_eq_left]
      omega)]
    decide
  have o2 : ordR [1, 2] [2, 1] = none := by
    rw [ordR_eq (l0 := [1, 2]) (l1 := [2, 1]) rfl, ordF_eq (W := [1, 2]) (by simp) (fun x => by
      simp only [nodeOf, List.zip_cons_cons, List.zip_nil_right, List.mem_cons, List.not_mem_nil, or_false, exists_eq_or_imp, exists_eq_left]
      omega)]
    decide
  have o3 : ordR [1] [1] = none := by
    rw [ordR_eq rfl, ordF_eq (W := [1]) (by simp) (fun x => by
      simp only [nodeOf, List.zip_cons_cons, List.zip_nil_right, List.mem_cons, List.not_mem_nil, or_false, exists_eq_left]
      omega)]
    decide
  have o4 : ordR [] [] = some [] := by
    rw [ordR_eq rfl, ordF_eq (W := []) (by simp) (fun x => by simp [nodeOf])]
    rfl
  unfold alive.f
  rw [if_pos (by decide), lt_is (v := true) (by decide), lt_is rfl, if_pos (by decide), lt_is (v := false) (by decide), lt_is rfl, if_pos (by decide), lt_is (v := true) (by decide), lt_is rfl, if_pos (by decide), lt_is (v := false) (by decide), lt_is (v := 1) (by decide)]
  rw [if_pos (by decide), lt_is o1, if_pos (by decide), lt_is o2, if_pos (by decide), lt_is o3, if_pos (by decide), lt_is o4, if_pos rfl, if_pos (by rfl), if_pos rfl, if_pos (by rfl), if_pos (by rfl)]
  simp only [Option.getD_some]
  rw [same_is [3, 2, 1, 5] (by decide) (by simp; omega), Option.bind_some, if_pos rfl, if_pos (by rfl), if_pos (by rfl), if_pos (by rfl), lt_is rfl]
  rfl

theorem zip_snoc {l0 l1 : List Int} (h : l0.length = l1.length) (a b : Int) : (l0 ++ [a]).zip (l1 ++ [b]) = l0.zip l1 ++ [(a, b)] := by
  rw [List.zip_append h]; rfl
theorem cms_more {es : List (Int × Int)} {a b x y : Int} (h : Cms (es ++ [(a, b)]) x y) : Cms es x y ∨ (Cms es x a ∧ Cms es b y) := by
  induction h with
  | here => exact .inl .here
  | step _ hm ih =>
    rcases List.mem_append.1 hm with hm | hm
    · rcases ih with ih | ⟨h1, h2⟩
      · exact .inl (.step ih hm)
      · exact .inr ⟨h1, .step h2 hm⟩
    · rw [List.mem_singleton] at hm
      injection hm with e1 e2
      subst e1 e2
      rcases ih with ih | ⟨h1, h2⟩
      · exact .inr ⟨ih, .here⟩
      · exact .inr ⟨h1, .here⟩
theorem cms_less {es : List (Int × Int)} {p : Int × Int} {x y : Int} (h : Cms es x y) : Cms (es ++ [p]) x y := h.mono fun q hq => List.mem_append_left _ hq
theorem cms_edge {es : List (Int × Int)} {a b : Int} : Cms (es ++ [(a, b)]) a b := .step .here (List.mem_append_right _ (List.mem_singleton_self _))
theorem ring_more {es : List (Int × Int)} {a b : Int} : Ring (es ++ [(a, b)]) ↔ Ring es ∨ Cms es b a := by
  constructor
  · rintro ⟨⟨c, d⟩, hm, hc⟩
    rcases List.mem_append.1 hm with hm | hm
    · rcases cms_more hc with h | ⟨h1, h2⟩
      · exact .inl ⟨(c, d), hm, h⟩
      · exact .inr (Cms.trans h2 (Cms.first hm h1))
    · rw [List.mem_singleton] at hm
      injection hm with e1 e2
      subst e1 e2
      rcases cms_more hc with h | ⟨h1, _⟩
      · exact .inr h
      · exact .inr h1
  · rintro (⟨p, hm, hc⟩ | h)
    · exact ⟨p, List.mem_append_left _ hm, cms_less hc⟩
    · exact ⟨(a, b), List.mem_append_right _ (List.mem_singleton_self _), cms_less h⟩
theorem RingsMore_pure (l0 : List Int) (l1 : List Int) (l2 : List Int) (hy0 : l0.length ≤ 140737488351232) (v0 : ∀ n ∈ l0, (Lit.int .u32 n).wf = true) (hy1 : l1.length ≤ 140737488351232) (v1 : ∀ n ∈ l1, (Lit.int .u32 n).wf = true) (n2 : l2.length = 2) (v2 : ∀ n ∈ l2, (Lit.int .u32 n).wf = true) : ∃ k, RingsMore.f k l0 l1 l2 = some true := by
  refine ⟨1000, ?_⟩
  unfold RingsMore.f
  rw [alive_is (by omega), Option.bind_some, iff_ (by rfl)]
  by_cases h0 : l0.length ≤ 30
  · rw [iff_ (df (by omega))]
    by_cases hl : l0.length = l1.length
    · have hle : ∀ x : Int, [x].length = 1 := fun _ => rfl
      rw [iff_ (bne_no (by omega)), if_pos (by omega), lt_is rfl, if_pos (by omega), if_pos (by omega), if_pos (by omega), lt_is rfl, lt_is rfl, if_pos (by omega), if_pos (by omega), if_pos (by omega), if_pos (by rw [hle]; omega), if_pos (by omega), if_pos (by rw [hle]; omega), if_pos (by rw [List.length_append, hle]; omega), lt_is rfl]
      rw [if_pos hl, if_pos hl, ift (by rfl), ordR_eq hl, ordR_eq (by rw [List.length_append, List.length_append, hle, hle, hl]), zip_snoc hl]
      have e : (ordF (l0.zip l1 ++ [(l2.getD (Int.toNat 0) 0, l2.getD (Int.toNat 1) 0)])).isSome = ((ordF (l0.zip l1)).isSome && !comesB (l0.zip l1) (l2.getD (Int.toNat 1) 0) (l2.getD (Int.toNat 0) 0)) := bool_ext (by
        rw [ord_iff, ring_more, Bool.and_eq_true, ord_iff, Bool.not_eq_true', ← Bool.not_eq_true, comes_iff, not_or])
      rw [e]
      cases (ordF (l0.zip l1)).isSome with
      | true => rw [if_pos rfl]; simp
      | false => rw [iff_ rfl]; simp
    · rw [ift (by simp; omega), Option.bind_some]
  · rw [ift (dt (by omega)), Option.bind_some]
end Go.Proofs.Ytjdholnlbhkmeaa.Pl
