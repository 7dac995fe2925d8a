/- The plain law of RingsBack. -/
import Derived.Test.YtjdholnlbhkmeaaDRingsBack
import Derived.Test.YtjdholnlbhkmeaaOg
import Derived.IntWalk
namespace Go.Proofs.Ytjdholnlbhkmeaa.Pl
open Go Go.RowKit Sx Base Own

theorem same_l1 (l : List Int) (hl : l.length ≤ 100000) : ∀ (d k i : Nat), i + d = l.length → d < k → SameIds.l1 k l l (i : Int) = some true := by
  intro d
  induction d with
  | zero =>
    intro k i hi hk
    obtain ⟨k, rfl⟩ : ∃ q, k = q + 1 := ⟨k - 1, by omega⟩
    rw [SameIds.l1, iff_ (df (by omega))]
  | succ d ih =>
    intro k i hi hk
    obtain ⟨k, rfl⟩ : ∃ q, k = q + 1 := ⟨k - 1, by omega⟩
    rw [SameIds.l1, ift (dt (by omega)), if_pos (by omega), if_pos (by omega), iff_ (bne_no rfl), w64s (by omega)]
    exact ih k (i + 1) (by omega) (by omega)
theorem same_is (l : List Int) (hl : l.length ≤ 100000) {k : Nat} (hk : l.length < k) : SameIds.f k l l = some true := by
  unfold SameIds.f
  rw [iff_ (bne_no rfl)]
  exact same_l1 l hl l.length k 0 (by omega) hk
theorem alive_is {k : Nat} (hk : 10 < k) : alive.f k = some true := by
  have o1 : ordR [1, 2, 5] [2, 3, 3] = some [3, 2, 1, 5] := by
    rw [ordR_eq (l0 := [1, 2, 5]) (l1 := [2, 3, 3]) rfl, ordF_eq (W := [1, 2, 3, 5]) (by simp) (fun x => by
      simp only [nodeOf, List.zip_cons_cons, List.zip_nil_right, List.mem_cons, List.not_mem_nil, or_false, exists_eq_or_imp, exists_eq_left]
      omega)]
    decide
  have o2 : ordR [1, 2] [2, 1] = none := by
    rw [ordR_eq (l0 := [1, 2]) (l1 := [2, 1]) rfl, ordF_eq (W := [1, 2]) (by simp) (fun x => by
      simp only [nodeOf, List.zip_cons_cons, List.zip_nil_right, List.mem_cons, List.not_mem_nil, or_false, exists_eq_or_imp, exists_eq_left]
      omega)]
    decide
  have o3 : ordR [1] [1] = none := by
    rw [ordR_eq rfl, ordF_eq (W := [1]) (by simp) (fun x => by
      simp only [nodeOf, List.zip_cons_cons, List.zip_nil_right, List.mem_cons, List.not_mem_nil, or_false, exists_eq_left]
      omega)]
    decide
  have o4 : ordR [] [] = some [] := by
    rw [ordR_eq rfl, ordF_eq (W := []) (by simp) (fun x => by simp [nodeOf])]
    rfl
  unfold alive.f
  rw [if_pos (by decide), lt_is (v := true) (by decide), lt_is rfl, if_pos (by decide), lt_is (v := false) (by decide), lt_is rfl, if_pos (by decide), lt_is (v := true) (by decide), lt_is rfl, if_pos (by decide), lt_is (v := false) (by decide), lt_is (v := 1) (by decide)]
  rw [if_pos (by decide), lt_is o1, if_pos (by decide), lt_is o2, if_pos (by decide), lt_is o3, if_pos (by decide), lt_is o4, if_pos rfl, if_pos (by rfl), if_pos rfl, if_pos (by rfl), if_pos (by rfl)]
  simp only [Option.getD_some]
  rw [same_is [3, 2, 1, 5] (by decide) (by simp; omega), Option.bind_some, if_pos rfl, if_pos (by rfl), if_pos (by rfl), if_pos (by rfl), lt_is rfl]
  rfl

theorem zip_swap (l0 l1 : List Int) {a b : Int} : (a, b) ∈ l0.zip l1 ↔ (b, a) ∈ l1.zip l0 := by
  constructor
  · intro h
    obtain ⟨i, hi, e⟩ := List.getElem_of_mem h
    rw [List.getElem_zip] at e
    injection e with e1 e2
    rw [List.length_zip] at hi
    have : i < (l1.zip l0).length := by rw [List.length_zip]; omega
    have h2 : (l1.zip l0)[i] = (b, a) := by rw [List.getElem_zip, e1, e2]
    rw [← h2]; exact List.getElem_mem this
  · intro h
    obtain ⟨i, hi, e⟩ := List.getElem_of_mem h
    rw [List.getElem_zip] at e
    injection e with e1 e2
    rw [List.length_zip] at hi
    have : i < (l0.zip l1).length := by rw [List.length_zip]; omega
    have h2 : (l0.zip l1)[i] = (a, b) := by rw [List.getElem_zip, e1, e2]
    rw [← h2]; exact List.getElem_mem this
theorem cms_swap {l0 l1 : List Int} {a b : Int} (h : Cms (l0.zip l1) a b) : Cms (l1.zip l0) b a := by
  induction h with
  | here => exact .here
  | step _ hm ih => exact Cms.first ((zip_swap l0 l1).1 hm) ih
theorem ring_swap {l0 l1 : List Int} (h : Ring (l0.zip l1)) : Ring (l1.zip l0) := by
  obtain ⟨⟨a, b⟩, hm, hc⟩ := h
  exact ⟨(b, a), (zip_swap l0 l1).1 hm, cms_swap hc⟩
theorem RingsBack_pure (l0 : List Int) (l1 : List Int) (l2 : List Int) (hy0 : l0.length ≤ 140737488351232) (v0 : ∀ n ∈ l0, (Lit.int .u32 n).wf = true) (hy1 : l1.length ≤ 140737488351232) (v1 : ∀ n ∈ l1, (Lit.int .u32 n).wf = true) (n2 : l2.length = 2) (v2 : ∀ n ∈ l2, (Lit.int .u32 n).wf = true) : ∃ k, RingsBack.f k l0 l1 l2 = some true := by
  refine ⟨1000, ?_⟩
  unfold RingsBack.f
  rw [alive_is (by omega), Option.bind_some, iff_ (by rfl)]
  by_cases h0 : l0.length ≤ 30
  · rw [iff_ (df (by omega))]
    by_cases hl : l0.length = l1.length
    · rw [iff_ (bne_no (by omega)), if_pos (by omega), lt_is rfl, if_pos (by omega), lt_is rfl, if_pos (by omega), if_pos (by omega), if_pos (by omega), lt_is rfl, lt_is rfl, if_pos (by omega), if_pos (by omega), if_pos (by omega), lt_is rfl, lt_is rfl]
      rw [if_pos hl, if_pos hl, if_pos hl.symm, if_pos hl.symm, ordR_eq hl, ordR_eq hl.symm]
      have e1 : (ordF (l0.zip l1)).isSome = (ordF (l1.zip l0)).isSome := bool_ext (by rw [ord_iff, ord_iff]; exact ⟨fun h q => h (ring_swap q), fun h q => h (ring_swap q)⟩)
      have e2 : ∀ a b, comesB (l0.zip l1) a b = comesB (l1.zip l0) b a := fun a b => bool_ext (by rw [comes_iff, comes_iff]; exact ⟨cms_swap, cms_swap⟩)
      rw [e1, ift (by simp), ift (by rfl), ift (by rfl), e2]
      simp
    · rw [ift (by simp; omega), Option.bind_some]
  · rw [ift (dt (by omega)), Option.bind_some]
end Go.Proofs.Ytjdholnlbhkmeaa.Pl
