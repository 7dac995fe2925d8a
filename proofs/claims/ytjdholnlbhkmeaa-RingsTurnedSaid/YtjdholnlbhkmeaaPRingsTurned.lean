/- The plain law of RingsTurned. -/
import Derived.Test.YtjdholnlbhkmeaaDRingsTurned
import Derived.Test.YtjdholnlbhkmeaaOg
import Derived.IntWalk
namespace Go.Proofs.Ytjdholnlbhkmeaa.Pl
open Go Go.RowKit Sx Base Own

theorem same_l1 (l : List Int) (hl : l.length ≤ 100000) : ∀ (d k i : Nat), i + d = l.length → d < k → SameIds.l1 k l l (i : Int) = some true := by
  intro d
  induction d with
  | zero =>
    intro k i hi hk
    obtain ⟨k, rfl⟩ : ∃ q, k = q + 1 := ⟨k - 1, by omega⟩
    rw [SameIds.l1, iff_ (df (by omega))]
  | succ d ih =>
    intro k i hi hk
    obtain ⟨k, rfl⟩ : ∃ q, k = q + 1 := ⟨k - 1, by omega⟩
    rw [SameIds.l1, ift (dt (by omega)), if_pos (by omega), if_pos (by omega), iff_ (bne_no rfl), w64s (by omega)]
    exact ih k (i + 1) (by omega) (by omega)
theorem same_is (l : List Int) (hl : l.length ≤ 100000) {k : Nat} (hk : l.length < k) : SameIds.f k l l = some true := by
  unfold SameIds.f
  rw [iff_ (bne_no rfl)]
  exact same_l1 l hl l.length k 0 (by omega) hk
theorem alive_is {k : Nat} (hk : 10 < k) : alive.f k = some true := by
  have o1 : ordR [1, 2, 5] [2, 3, 3] = some [3, 2, 1, 5] := by
    rw [ordR_eq (l0 := [1, 2, 5]) (l1 := [2, 3, 3]) rfl, ordF_eq (W := [1, 2, 3, 5]) (by simp) (fun x => by
      simp only [nodeOf, List.zip_cons_cons, List.zip_nil_right, List.mem_cons, List.not_mem_nil, or_false, exists_eq_or_imp, exists_eq_left]
      omega)]
    decide
  have o2 : ordR [1, 2] [2, 1] = none := by
    rw [ordR_eq (l0 := [1, 2]) (l1 := [2, 1]) rfl, ordF_eq (W := [1, 2]) (by simp) (fun x => by
      simp only [nodeOf, List.zip_cons_cons, List.zip_nil_right, List.mem_cons, List.not_mem_nil, or_false, exists_eq_or_imp, exists_eq_left]
      omega)]
    decide
  have o3 : ordR [1] [1] = none := by
    rw [ordR_eq rfl, ordF_eq (W := [1]) (by simp) (fun x => by
      simp only [nodeOf, List.zip_cons_cons, List.zip_nil_right, List.mem_cons, List.not_mem_nil, or_false, exists_eq_left]
      omega)]
    decide
  have o4 : ordR [] [] = some [] := by
    rw [ordR_eq rfl, ordF_eq (W := []) (by simp) (fun x => by simp [nodeOf])]
    rfl
  unfold alive.f
  rw [if_pos (by decide), lt_is (v := true) (by decide), lt_is rfl, if_pos (by decide), lt_is (v := false) (by decide), lt_is rfl, if_pos (by decide), lt_is (v := true) (by decide), lt_is rfl, if_pos (by decide), lt_is (v := false) (by decide), lt_is (v := 1) (by decide)]
  rw [if_pos (by decide), lt_is o1, if_pos (by decide), lt_is o2, if_pos (by decide), lt_is o3, if_pos (by decide), lt_is o4, if_pos rfl, if_pos (by rfl), if_pos rfl, if_pos (by rfl), if_pos (by rfl)]
  simp only [Option.getD_some]
  rw [same_is [3, 2, 1, 5] (by decide) (by simp; omega), Option.bind_some, if_pos rfl, if_pos (by rfl), if_pos (by rfl), if_pos (by rfl), lt_is rfl]
  rfl

theorem drop_zip' (k : Nat) (l0 l1 : List Int) : (l0.drop k).zip (l1.drop k) = (l0.zip l1).drop k := by unfold List.zip; rw [List.drop_zipWith]
theorem take_zip' (k : Nat) (l0 l1 : List Int) : (l0.take k).zip (l1.take k) = (l0.zip l1).take k := by unfold List.zip; rw [List.take_zipWith]
theorem RingsTurned_pure (l0 : List Int) (l1 : List Int) (a2 : Int) (hy0 : l0.length ≤ 140737488351232) (v0 : ∀ n ∈ l0, (Lit.int .u32 n).wf = true) (hy1 : l1.length ≤ 140737488351232) (v1 : ∀ n ∈ l1, (Lit.int .u32 n).wf = true) (v2 : (Lit.int .u8 a2).wf = true) : ∃ k, RingsTurned.f k l0 l1 a2 = some true := by
  refine ⟨1000, ?_⟩
  have b2 := wfu8 v2
  unfold RingsTurned.f
  rw [alive_is (by omega), Option.bind_some, iff_ (by rfl)]
  by_cases h0 : l0.length ≤ 30
  · rw [iff_ (df (by omega))]
    by_cases hl : l0.length = l1.length
    · rw [iff_ (bne_no (by omega))]
      by_cases hz : l0.length = 0
      · rw [ift (beq_yes (by omega)), Option.bind_some]
      · rw [iff_ (beq_no (by omega)), if_pos (by omega), w64 (x := a2) (by omega) (by omega), tm (by omega)]
        obtain ⟨k, hk, hk2⟩ : ∃ k : Nat, a2 % (l0.length : Int) = (k : Int) ∧ k < l0.length := ⟨(a2 % (l0.length : Int)).toNat, by have := Int.emod_nonneg a2 (show (l0.length : Int) ≠ 0 by omega); omega, by have := Int.emod_lt_of_pos a2 (show (0 : Int) < (l0.length : Int) by omega); have := Int.emod_nonneg a2 (show (l0.length : Int) ≠ 0 by omega); omega⟩
        have hle : ∀ x : Int, [x].length = 1 := fun _ => rfl
        have hn0 : ([] : List Int).length = 0 := rfl
        have d0 : (l0.drop k).length = l0.length - k := List.length_drop
        have d1 : (l1.drop k).length = l1.length - k := List.length_drop
        have t0 : (l0.take k).length = k := by rw [List.length_take]; omega
        have t1 : (l1.take k).length = k := by rw [List.length_take]; omega
        rw [lt_is hk]
        simp only [Int.toNat_natCast, List.nil_append]
        rw [if_pos (by omega), if_pos (by omega), if_pos (by omega), if_pos (by rw [hn0]; omega), if_pos (by omega), if_pos (by rw [List.length_append, hle]; omega), if_pos (by omega), if_pos (by omega), if_pos (by omega), if_pos (by rw [hn0]; omega), if_pos (by omega), if_pos (by rw [List.length_append, hle]; omega), if_pos (by omega), lt_is rfl, if_pos (by rw [List.length_append, List.length_append, hle]; omega), lt_is rfl, if_pos (by omega), if_pos (by omega), if_pos (by omega), lt_is rfl, lt_is rfl]
        have hx : (l0.drop k ++ l0.take k ++ [l0.getD k 0]).length = (l1.drop k ++ l1.take k ++ [l1.getD k 0]).length := by
          simp only [List.length_append, hle, d0, d1, t0, t1]; omega
        have g0 : l0.getD k 0 = l0[k] := by rw [List.getD_eq_getElem?_getD, List.getElem?_eq_getElem hk2]; rfl
        have g1 : l1.getD k 0 = l1[k] := by rw [List.getD_eq_getElem?_getD, List.getElem?_eq_getElem (by omega)]; rfl
        have hkm : (l0.getD k 0, l1.getD k 0) ∈ l0.zip l1 := by
          have h1 : k < (l0.zip l1).length := by rw [List.length_zip]; omega
          have : (l0.zip l1)[k] = (l0.getD k 0, l1.getD k 0) := by rw [List.getElem_zip, g0, g1]
          rw [← this]; exact List.getElem_mem h1
        have hsame : ordR (l0.drop k ++ l0.take k ++ [l0.getD k 0]) (l1.drop k ++ l1.take k ++ [l1.getD k 0]) = ordR l0 l1 := by
          rw [ordR_eq hx, ordR_eq hl]
          refine ordF_same fun p => ?_
          rw [List.zip_append (by simp only [List.length_append]; omega), List.zip_append (by omega), drop_zip', take_zip', List.mem_append, List.mem_append]
          show (_ ∨ p ∈ [(l0.getD k 0, l1.getD k 0)]) ↔ _
          rw [List.mem_singleton]
          constructor
          · rintro ((h | h) | h)
            · exact List.mem_of_mem_drop h
            · exact List.mem_of_mem_take h
            · rw [h]; exact hkm
          · intro h
            rw [← List.take_append_drop k (l0.zip l1), List.mem_append] at h
            exact .inl (h.elim .inr .inl)
        rw [hsame, if_pos hl, if_pos hl, ift (by simp)]
        have hlen : ((ordR l0 l1).getD []).length ≤ 900 := by
          cases ho : ordR l0 l1 with
          | none => simp
          | some l =>
            rw [ordR_eq hl] at ho
            have h1 := Ord.of ho
            have h2 := (List.perm_ext_iff_of_nodup h1.nodup ((nds_sorted (l0.zip l1)).imp (fun hab e => by omega))).2 fun x => by rw [h1.mem, nds_mem]
            have h3 : (nds (l0.zip l1)).length ≤ 2 * (l0.zip l1).length := by
              unfold nds
              rw [risen_len, keysM, List.length_map]
              exact wt_len _
            rw [List.length_zip] at h3
            have := h2.length_eq
            simp only [Option.getD_some]
            omega
        rw [same_is _ (by omega) (by omega), Option.bind_some, if_pos rfl, ift (by rfl), (comes_iff _ _ _).2 (Cms.step .here hkm)]
    · rw [ift (by simp; omega), Option.bind_some]
  · rw [ift (dt (by omega)), Option.bind_some]
end Go.Proofs.Ytjdholnlbhkmeaa.Pl
