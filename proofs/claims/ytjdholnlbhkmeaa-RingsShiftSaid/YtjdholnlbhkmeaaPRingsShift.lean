/- The plain law of RingsShift. -/
import Derived.Test.YtjdholnlbhkmeaaDRingsShift
import Derived.Test.YtjdholnlbhkmeaaOg
import Derived.IntWalk
namespace Go.Proofs.Ytjdholnlbhkmeaa.Pl
open Go Go.RowKit Sx Base Own

theorem same_l1 (l : List Int) (hl : l.length ≤ 100000) : ∀ (d k i : Nat), i + d = l.length → d < k → SameIds.l1 k l l (i : Int) = some true := by
  intro d
  induction d with
  | zero =>
    intro k i hi hk
    obtain ⟨k, rfl⟩ : ∃ q, k = q + 1 := ⟨k - 1, by omega⟩
    rw [SameIds.l1, iff_ (df (by omega))]
  | succ d ih =>
    intro k i hi hk
    obtain ⟨k, rfl⟩ : ∃ q, k = q + 1 := ⟨k - 1, by omega⟩
    rw [SameIds.l1, ift (dt (by omega)), if_pos (by omega), if_pos (by omega), iff_ (bne_no rfl), w64s (by omega)]
    exact ih k (i + 1) (by omega) (by omega)
theorem same_is (l : List Int) (hl : l.length ≤ 100000) {k : Nat} (hk : l.length < k) : SameIds.f k l l = some true := by
  unfold SameIds.f
  rw [iff_ (bne_no rfl)]
  exact same_l1 l hl l.length k 0 (by omega) hk
theorem alive_is {k : Nat} (hk : 10 < k) : alive.f k = some true := by
  have o1 : ordR [1, 2, 5] [2, 3, 3] = some [3, 2, 1, 5] := by
    rw [ordR_eq (l0 := [1, 2, 5]) (l1 := [2, 3, 3]) rfl, ordF_eq (W := [1, 2, 3, 5]) (by simp) (fun x => by
      simp only [nodeOf, List.zip_cons_cons, List.zip_nil_right, List.mem_cons, List.not_mem_nil, or_false, exists_eq_or_imp, exists_eq_left]
      omega)]
    decide
  have o2 : ordR [1, 2] [2, 1] = none := by
    rw [ordR_eq (l0 := [1, 2]) (l1 := [2, 1]) rfl, ordF_eq (W := [1, 2]) (by simp) (fun x => by
      simp only [nodeOf, List.zip_cons_cons, List.zip_nil_right, List.mem_cons, List.not_mem_nil, or_false, exists_eq_or_imp, exists_eq_left]
      omega)]
    decide
  have o3 : ordR [1] [1] = none := by
    rw [ordR_eq rfl, ordF_eq (W := [1]) (by simp) (fun x => by
      simp only [nodeOf, List.zip_cons_cons, List.zip_nil_right, List.mem_cons, List.not_mem_nil, or_false, exists_eq_left]
      omega)]
    decide
  have o4 : ordR [] [] = some [] := by
    rw [ordR_eq rfl, ordF_eq (W := []) (by simp) (fun x => by simp [nodeOf])]
    rfl
  unfold alive.f
  rw [if_pos (by decide), lt_is (v := true) (by decide), lt_is rfl, if_pos (by decide), lt_is (v := false) (by decide), lt_is rfl, if_pos (by decide), lt_is (v := true) (by decide), lt_is rfl, if_pos (by decide), lt_is (v := false) (by decide), lt_is (v := 1) (by decide)]
  rw [if_pos (by decide), lt_is o1, if_pos (by decide), lt_is o2, if_pos (by decide), lt_is o3, if_pos (by decide), lt_is o4, if_pos rfl, if_pos (by rfl), if_pos rfl, if_pos (by rfl), if_pos (by rfl)]
  simp only [Option.getD_some]
  rw [same_is [3, 2, 1, 5] (by decide) (by simp; omega), Option.bind_some, if_pos rfl, if_pos (by rfl), if_pos (by rfl), if_pos (by rfl), lt_is rfl]
  rfl

def mv (c : Int) (p : Int × Int) : Int × Int := (p.1 + c, p.2 + c)
theorem zip_mv (c : Int) (l0 l1 : List Int) : (l0.map (· + c)).zip (l1.map (· + c)) = (l0.zip l1).map (mv c) := by
  rw [List.zip_map]; rfl
theorem mem_mv {c : Int} {es : List (Int × Int)} {a b : Int} : (a + c, b + c) ∈ es.map (mv c) ↔ (a, b) ∈ es := by
  rw [List.mem_map]
  constructor
  · rintro ⟨⟨x, y⟩, h, e⟩
    injection e with e1 e2
    have : x = a := by omega
    have : y = b := by omega
    subst x y; exact h
  · intro h; exact ⟨(a, b), h, rfl⟩
theorem cms_mv {c : Int} {es : List (Int × Int)} {a z : Int} (h : Cms (es.map (mv c)) a z) : ∀ a', a = a' + c → ∃ b, z = b + c ∧ Cms es a' b := by
  induction h with
  | here => intro a' e; exact ⟨a', e, .here⟩
  | step _ hm ih =>
    intro a' e
    obtain ⟨b, e1, h1⟩ := ih a' e
    obtain ⟨⟨x, y⟩, hp, e2⟩ := List.mem_map.1 hm
    injection e2 with e3 e4
    have : x = b := by omega
    subst this
    exact ⟨y, e4.symm, .step h1 hp⟩
theorem cms_mv' {c : Int} {es : List (Int × Int)} {a b : Int} (h : Cms es a b) : Cms (es.map (mv c)) (a + c) (b + c) := by
  induction h with
  | here => exact .here
  | step _ hm ih => exact .step ih (mem_mv.2 hm)
theorem comes_mv (c : Int) (es : List (Int × Int)) (a b : Int) : comesB (es.map (mv c)) (a + c) (b + c) = comesB es a b := bool_ext (by
  rw [comes_iff, comes_iff]
  constructor
  · intro h
    obtain ⟨b', e, h1⟩ := cms_mv h a rfl
    have : b' = b := by omega
    subst this; exact h1
  · exact cms_mv')
theorem ring_mv {c : Int} {es : List (Int × Int)} (h : Ring es) : Ring (es.map (mv c)) := by
  obtain ⟨⟨a, b⟩, hm, hc⟩ := h
  exact ⟨(a + c, b + c), mem_mv.2 hm, cms_mv' hc⟩
theorem ord_mv {c : Int} {es : List (Int × Int)} {l : List Int} (h : Ord es l) : Ord (es.map (mv c)) (l.map (· + c)) := by
  refine ⟨?_, fun x => ?_, fun p x s e y hy => ?_, fun p x s e z hz hf => ?_⟩
  · unfold List.Nodup
    rw [List.pairwise_map]
    exact h.nodup.imp (fun hab e => hab (by omega))
  · rw [List.mem_map]
    constructor
    · rintro ⟨a, ha, rfl⟩
      obtain ⟨⟨u, v⟩, hp, q⟩ := (h.mem a).1 ha
      refine ⟨(u + c, v + c), mem_mv.2 hp, ?_⟩
      rcases q with q | q
      · exact .inl (by simp only at q ⊢; omega)
      · exact .inr (by simp only at q ⊢; omega)
    · rintro ⟨q, hq, hx⟩
      obtain ⟨⟨u, v⟩, hp, rfl⟩ := List.mem_map.1 hq
      rcases hx with hx | hx
      · exact ⟨u, (h.mem u).2 ⟨_, hp, .inl rfl⟩, hx⟩
      · exact ⟨v, (h.mem v).2 ⟨_, hp, .inr rfl⟩, hx⟩
  · obtain ⟨p', r', rfl, e1, e2⟩ := List.map_eq_append_iff.1 e
    obtain ⟨x', s', rfl, e3, e4⟩ := List.map_eq_cons_iff.1 e2
    obtain ⟨⟨u, v⟩, hp, e5⟩ := List.mem_map.1 hy
    injection e5 with e6 e7
    have : u = x' := by omega
    subst this
    have := h.free p' u s' rfl v hp
    rw [← e1, ← e7]
    exact List.mem_map.2 ⟨v, this, rfl⟩
  · obtain ⟨p', r', rfl, e1, e2⟩ := List.map_eq_append_iff.1 e
    obtain ⟨x', s', rfl, e3, e4⟩ := List.map_eq_cons_iff.1 e2
    rw [← e3, ← e4, ← List.map_cons (f := (· + c))] at hz
    obtain ⟨z', hz', e5⟩ := List.mem_map.1 hz
    have := h.least p' x' s' rfl z' hz' (fun y hy => by
      have h1 := hf (y + c) (by rw [← e5]; exact mem_mv.2 hy)
      rw [← e1] at h1
      obtain ⟨y', hy', e6⟩ := List.mem_map.1 h1
      have : y' = y := by omega
      subst this; exact hy')
    omega
theorem ordF_mv (c : Int) (es : List (Int × Int)) : ordF (es.map (mv c)) = (ordF es).map fun l => l.map (· + c) := by
  cases h : ordF es with
  | some l => exact (ord_mv (Ord.of h)).is
  | none =>
    cases h2 : ordF (es.map (mv c)) with
    | none => rfl
    | some l =>
      have h3 : ¬ Ring es := fun hr => (Ord.of h2).noRing (ring_mv hr)
      have := (ord_iff es).2 h3
      rw [h] at this; cases this
theorem shift_l2 (c : Int) (hc : 0 ≤ c ∧ c ≤ 2147483647) (l : Option (List Int)) (l2 l0 l1 : List Int) (n2 : l2.length = 3) (b2 : ∀ i, i < 3 → 0 ≤ l2.getD i 0 ∧ l2.getD i 0 ≤ 4294967295) (hcc : l2.getD 0 0 / 2 = c) (hl : l0.length = l1.length) (hb : l0.length ≤ 30) (hll : (l.getD []).length ≤ 1000) (hv : ∀ x ∈ l.getD [], 0 ≤ x ∧ x ≤ 2147483647) :
    ∀ (d k i : Nat), i + d = (l.getD []).length → d < k → RingsShift.l2 k l (l.map fun l => l.map (· + c)) l2 l0 l1 (l0.map (· + c)) (l1.map (· + c)) i = some true := by
  have hm : ((l.map fun l => l.map (· + c)).getD []) = (l.getD []).map (· + c) := by cases l <;> rfl
  have hfd : ∀ x : Int, 0 ≤ x → Int.fdiv x (2 ^ 1) = x / 2 := fun x hx => by
    rw [show ((2 : Int) ^ 1) = 2 from rfl]
    exact Int.fdiv_eq_ediv_of_nonneg x (by omega)
  have e0 : Int.toNat 0 = 0 := rfl
  have e1 : Int.toNat 1 = 1 := rfl
  have e2 : Int.toNat 2 = 2 := rfl
  have c0 := b2 0 (by omega)
  have c1 := b2 1 (by omega)
  have c2 := b2 2 (by omega)
  intro d
  induction d with
  | zero =>
    intro k i hi hk
    obtain ⟨k, rfl⟩ : ∃ q, k = q + 1 := ⟨k - 1, by omega⟩
    unfold RingsShift.l2
    rw [iff_ (df (by omega)), if_pos (by omega), if_pos (by omega), if_pos (by omega), lt_is rfl, lt_is rfl, if_pos (by omega), if_pos (by omega), if_pos (by omega), if_pos (by omega), if_pos (by rw [List.length_map]; omega), lt_is rfl, lt_is rfl]
    have hml : (l0.map (· + c)).length = (l1.map (· + c)).length := by rw [List.length_map, List.length_map]; exact hl
    rw [if_pos hl, if_pos hl, if_pos hml, if_pos hml, ift (by rfl), ift (by rfl), e0, e1, e2, hfd _ c0.1, hfd _ c1.1, hfd _ c2.1, hcc, IntKind.wrap_u32, IntKind.wrap_u32, zip_mv]
    have w1 : (l2.getD 1 0 / 2 + c) % 4294967296 = l2.getD 1 0 / 2 + c := by omega
    have w2 : (l2.getD 2 0 / 2 + c) % 4294967296 = l2.getD 2 0 / 2 + c := by omega
    rw [w1, w2, comes_mv]
    simp
  | succ d ih =>
    intro k i hi hk
    obtain ⟨k, rfl⟩ : ∃ q, k = q + 1 := ⟨k - 1, by omega⟩
    have hil : i < (l.getD []).length := by omega
    have hx := hv _ (List.getElem_mem hil)
    have g1 : (l.getD []).getD i 0 = (l.getD [])[i] := by rw [List.getD_eq_getElem?_getD, List.getElem?_eq_getElem hil]; rfl
    have g2 : ((l.getD []).map (· + c)).getD i 0 = (l.getD [])[i] + c := by
      rw [List.getD_eq_getElem?_getD, List.getElem?_eq_getElem (by rw [List.length_map]; exact hil), List.getElem_map]; rfl
    unfold RingsShift.l2
    rw [hm, ift (dt (by omega)), if_pos (by rw [List.length_map]; omega), if_pos (by omega), if_pos (by omega), Int.toNat_natCast, g1, g2, e0, hfd _ c0.1, hcc, IntKind.wrap_u32, iff_ (bne_no (by omega)), w64s (by omega)]
    exact ih k (i + 1) (by omega) (by omega)
theorem shift_l1 (c : Int) (hc : 0 ≤ c ∧ c ≤ 2147483647) (l0 l1 l2 : List Int) (n2 : l2.length = 3) (b2 : ∀ i, i < 3 → 0 ≤ l2.getD i 0 ∧ l2.getD i 0 ≤ 4294967295) (hcc : l2.getD 0 0 / 2 = c) (v0 : ∀ i, i < l0.length → 0 ≤ l0.getD i 0 ∧ l0.getD i 0 ≤ 4294967295) (v1 : ∀ i, i < l1.length → 0 ≤ l1.getD i 0 ∧ l1.getD i 0 ≤ 4294967295) (hl : l0.length = l1.length) (hb : l0.length ≤ 30) :
    ∀ (d k i : Nat), i + d = l0.length → d + 2000 < k → (∀ j, j < i → l0.getD j 0 ≤ 2147483647 ∧ l1.getD j 0 ≤ 2147483647) → RingsShift.l1 k l0 l1 l2 ((l1.take i).map (· + c)) ((l0.take i).map (· + c)) i = some true := by
  have hfd : ∀ x : Int, 0 ≤ x → Int.fdiv x (2 ^ 1) = x / 2 := fun x hx => by
    rw [show ((2 : Int) ^ 1) = 2 from rfl]
    exact Int.fdiv_eq_ediv_of_nonneg x (by omega)
  have e0 : Int.toNat 0 = 0 := rfl
  have c0 := b2 0 (by omega)
  have hle : ∀ x : Int, [x].length = 1 := fun _ => rfl
  intro d
  induction d with
  | zero =>
    intro k i hi hk hs
    obtain ⟨k, rfl⟩ : ∃ q, k = q + 1 := ⟨k - 1, by omega⟩
    have hml : (l0.map (· + c)).length = (l1.map (· + c)).length := by rw [List.length_map, List.length_map]; exact hl
    rw [List.take_of_length_le (by omega), List.take_of_length_le (by omega)]
    unfold RingsShift.l1
    rw [iff_ (df (by omega)), if_pos (by omega), lt_is rfl, if_pos (by rw [List.length_map]; omega), lt_is rfl, ordR_eq hl, ordR_eq hml, zip_mv, ordF_mv]
    rw [iff_ (by cases ordF (l0.zip l1) <;> simp), iff_ (bne_no (by cases ordF (l0.zip l1) <;> simp))]
    have hmem : ∀ x ∈ (ordF (l0.zip l1)).getD [], 0 ≤ x ∧ x ≤ 2147483647 := by
      intro x hx
      cases ho : ordF (l0.zip l1) with
      | none => rw [ho] at hx; simp at hx
      | some l =>
        rw [ho] at hx
        obtain ⟨⟨a, b⟩, hp, q⟩ := ((Ord.of ho).mem x).1 hx
        have hz := List.of_mem_zip hp
        rcases q with q | q
        · obtain ⟨j, hj, e⟩ := List.getElem_of_mem hz.1
          have g : l0.getD j 0 = l0[j] := by rw [List.getD_eq_getElem?_getD, List.getElem?_eq_getElem hj]; rfl
          have h1 := hs j (by omega)
          have h2 := v0 j hj
          rw [g, e] at h1 h2
          simp only at q
          omega
        · obtain ⟨j, hj, e⟩ := List.getElem_of_mem hz.2
          have g : l1.getD j 0 = l1[j] := by rw [List.getD_eq_getElem?_getD, List.getElem?_eq_getElem hj]; rfl
          have h1 := hs j (by omega)
          have h2 := v1 j hj
          rw [g, e] at h1 h2
          simp only at q
          omega
    have hlen : ((ordF (l0.zip l1)).getD []).length ≤ 900 := by
      cases ho : ordF (l0.zip l1) with
      | none => simp
      | some l =>
        have h1 := Ord.of ho
        have h2 := (List.perm_ext_iff_of_nodup h1.nodup ((nds_sorted (l0.zip l1)).imp (fun hab e => by omega))).2 fun x => by rw [h1.mem, nds_mem]
        have h3 : (nds (l0.zip l1)).length ≤ 2 * (l0.zip l1).length := by
          unfold nds
          rw [risen_len, keysM, List.length_map]
          exact wt_len _
        rw [List.length_zip] at h3
        have := h2.length_eq
        simp only [Option.getD_some]
        omega
    exact shift_l2 c hc _ l2 l0 l1 n2 b2 hcc hl hb (by omega) hmem ((ordF (l0.zip l1)).getD []).length k 0 (by omega) (by omega)
  | succ d ih =>
    intro k i hi hk hs
    obtain ⟨k, rfl⟩ : ∃ q, k = q + 1 := ⟨k - 1, by omega⟩
    have hi0 : i < l0.length := by omega
    have h0 := v0 i (by omega)
    have h1 := v1 i (by omega)
    unfold RingsShift.l1
    simp only [Int.toNat_natCast]
    rw [ift (dt (by omega)), if_pos (by omega)]
    by_cases q0 : l0.getD i 0 > 2147483647
    · rw [ift (dt q0)]
    · rw [iff_ (df q0), if_pos (by omega)]
      by_cases q1 : l1.getD i 0 > 2147483647
      · rw [ift (dt q1)]
      · rw [iff_ (df q1), if_pos (by omega), if_pos (by omega), if_pos (by rw [List.length_map, List.length_take, hle]; omega), if_pos (by omega), if_pos (by omega), if_pos (by rw [List.length_map, List.length_take, hle]; omega), e0, hfd _ c0.1, hcc, IntKind.wrap_u32, IntKind.wrap_u32, w64s (by omega)]
        have w0 : (l0.getD i 0 + c) % 4294967296 = l0.getD i 0 + c := by omega
        have w1 : (l1.getD i 0 + c) % 4294967296 = l1.getD i 0 + c := by omega
        have t0 : (l0.take i).map (· + c) ++ [l0.getD i 0 + c] = (l0.take (i + 1)).map (· + c) := by
          rw [List.take_succ_eq_append_getElem hi0, List.map_append, List.getD_eq_getElem?_getD, List.getElem?_eq_getElem hi0]; rfl
        have t1 : (l1.take i).map (· + c) ++ [l1.getD i 0 + c] = (l1.take (i + 1)).map (· + c) := by
          rw [List.take_succ_eq_append_getElem (by omega), List.map_append, List.getD_eq_getElem?_getD, List.getElem?_eq_getElem (by omega)]; rfl
        rw [w0, w1, t0, t1]
        refine ih k (i + 1) (by omega) (by omega) fun j hj => ?_
        by_cases hji : j = i
        · subst hji; omega
        · exact hs j (by omega)
theorem RingsShift_pure (l0 : List Int) (l1 : List Int) (l2 : List Int) (hy0 : l0.length ≤ 140737488351232) (v0 : ∀ n ∈ l0, (Lit.int .u32 n).wf = true) (hy1 : l1.length ≤ 140737488351232) (v1 : ∀ n ∈ l1, (Lit.int .u32 n).wf = true) (n2 : l2.length = 3) (v2 : ∀ n ∈ l2, (Lit.int .u32 n).wf = true) : ∃ k, RingsShift.f k l0 l1 l2 = some true := by
  refine ⟨3000, ?_⟩
  have wf : ∀ {l : List Int}, (∀ n ∈ l, (Lit.int .u32 n).wf = true) → ∀ i, i < l.length → 0 ≤ l.getD i 0 ∧ l.getD i 0 ≤ 4294967295 := fun {l} v i hi => by
    have hm : l.getD i 0 ∈ l := by rw [List.getD_eq_getElem?_getD, List.getElem?_eq_getElem hi]; exact List.getElem_mem hi
    exact wfu32 (v _ hm)
  unfold RingsShift.f
  rw [alive_is (by omega), Option.bind_some, iff_ (by rfl)]
  by_cases h0 : l0.length ≤ 30
  · rw [iff_ (df (by omega))]
    by_cases hl : l0.length = l1.length
    · rw [iff_ (bne_no (by omega))]
      have b2 : ∀ i, i < 3 → 0 ≤ l2.getD i 0 ∧ l2.getD i 0 ≤ 4294967295 := fun i hi => wf v2 i (by omega)
      have c0 := b2 0 (by omega)
      exact shift_l1 (l2.getD 0 0 / 2) (by omega) l0 l1 l2 n2 b2 rfl (wf v0) (wf v1) hl h0 l0.length 3000 0 (by omega) (by omega) (fun j hj => by omega)
    · rw [ift (by simp; omega), Option.bind_some]
  · rw [ift (dt (by omega)), Option.bind_some]
end Go.Proofs.Ytjdholnlbhkmeaa.Pl
