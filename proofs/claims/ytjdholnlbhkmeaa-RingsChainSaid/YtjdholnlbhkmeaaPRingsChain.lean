/- The plain law of RingsChain. -/
import Derived.Test.YtjdholnlbhkmeaaDRingsChain
import Derived.Test.YtjdholnlbhkmeaaOg
import Derived.IntWalk
namespace Go.Proofs.Ytjdholnlbhkmeaa.Pl
open Go Go.RowKit Sx Base Own

theorem same_l1 (l : List Int) (hl : l.length ≤ 100000) : ∀ (d k i : Nat), i + d = l.length → d < k → SameIds.l1 k l l (i : Int) = some true := by
  intro d
  induction d with
  | zero =>
    intro k i hi hk
    obtain ⟨k, rfl⟩ : ∃ q, k = q + 1 := ⟨k - 1, by omega⟩
    rw [SameIds.l1, iff_ (df (by omega))]
  | succ d ih =>
    intro k i hi hk
    obtain ⟨k, rfl⟩ : ∃ q, k = q + 1 := ⟨k - 1, by omega⟩
    rw [SameIds.l1, ift (dt (by omega)), if_pos (by omega), if_pos (by omega), iff_ (bne_no rfl), w64s (by omega)]
    exact ih k (i + 1) (by omega) (by omega)
theorem same_is (l : List Int) (hl : l.length ≤ 100000) {k : Nat} (hk : l.length < k) : SameIds.f k l l = some true := by
  unfold SameIds.f
  rw [iff_ (bne_no rfl)]
  exact same_l1 l hl l.length k 0 (by omega) hk
theorem alive_is {k : Nat} (hk : 10 < k) : alive.f k = some true := by
  have o1 : ordR [1, 2, 5] [2, 3, 3] = some [3, 2, 1, 5] := by
    rw [ordR_eq (l0 := [1, 2, 5]) (l1 := [2, 3, 3]) rfl, ordF_eq (W := [1, 2, 3, 5]) (by simp) (fun x => by
      simp only [nodeOf, List.zip_cons_cons, List.zip_nil_right, List.mem_cons, List.not_mem_nil, or_false, exists_eq_or_imp, exists_eq_left]
      omega)]
    decide
  have o2 : ordR [1, 2] [2, 1] = none := by
    rw [ordR_eq (l0 := [1, 2]) (l1 := [2, 1]) rfl, ordF_eq (W := [1, 2]) (by simp) (fun x => by
      simp only [nodeOf, List.zip_cons_cons, List.zip_nil_right, List.mem_cons, List.not_mem_nil, or_false, exists_eq_or_imp, exists_eq_left]
      omega)]
    decide
  have o3 : ordR [1] [1] = none := by
    rw [ordR_eq rfl, ordF_eq (W := [1]) (by simp) (fun x => by
      simp only [nodeOf, List.zip_cons_cons, List.zip_nil_right, List.mem_cons, List.not_mem_nil, or_false, exists_eq_left]
      omega)]
    decide
  have o4 : ordR [] [] = some [] := by
    rw [ordR_eq rfl, ordF_eq (W := []) (by simp) (fun x => by simp [nodeOf])]
    rfl
  unfold alive.f
  rw [if_pos (by decide), lt_is (v := true) (by decide), lt_is rfl, if_pos (by decide), lt_is (v := false) (by decide), lt_is rfl, if_pos (by decide), lt_is (v := true) (by decide), lt_is rfl, if_pos (by decide), lt_is (v := false) (by decide), lt_is (v := 1) (by decide)]
  rw [if_pos (by decide), lt_is o1, if_pos (by decide), lt_is o2, if_pos (by decide), lt_is o3, if_pos (by decide), lt_is o4, if_pos rfl, if_pos (by rfl), if_pos rfl, if_pos (by rfl), if_pos (by rfl)]
  simp only [Option.getD_some]
  rw [same_is [3, 2, 1, 5] (by decide) (by simp; omega), Option.bind_some, if_pos rfl, if_pos (by rfl), if_pos (by rfl), if_pos (by rfl), lt_is rfl]
  rfl

def node (a : Int) (i : Nat) : Int := (a + i) % 4294967296
theorem node_inj {a : Int} {i j : Nat} (hi : i ≤ 1000) (hj : j ≤ 1000) (h : node a i = node a j) : i = j := by
  unfold node at h
  omega
def chain (a : Int) (m : Nat) : List (Int × Int) := (List.range m).map fun i => (node a i, node a (i + 1))
theorem mem_chain {a : Int} {m : Nat} {p : Int × Int} : p ∈ chain a m ↔ ∃ i, i < m ∧ p = (node a i, node a (i + 1)) := by
  unfold chain
  rw [List.mem_map]
  constructor
  · rintro ⟨i, hi, rfl⟩; exact ⟨i, List.mem_range.1 hi, rfl⟩
  · rintro ⟨i, hi, rfl⟩; exact ⟨i, List.mem_range.2 hi, rfl⟩
theorem cms_chain {a : Int} {m p : Nat} (hm : m ≤ 100) (hp : p ≤ m) {z : Int} (h : Cms (chain a m) (node a p) z) : ∃ q, p ≤ q ∧ q ≤ m ∧ z = node a q := by
  induction h with
  | here => exact ⟨p, Nat.le_refl _, hp, rfl⟩
  | step _ hm' ih =>
    obtain ⟨q, h1, h2, h3⟩ := ih
    obtain ⟨i, hi, e⟩ := mem_chain.1 hm'
    injection e with e1 e2
    rw [h3] at e1
    have := node_inj (by omega) (by omega) e1
    subst this
    exact ⟨q + 1, by omega, by omega, e2⟩
theorem chain_cms {a : Int} {m p : Nat} : ∀ {q : Nat}, p ≤ q → q ≤ m → Cms (chain a m) (node a p) (node a q) := by
  intro q
  induction q with
  | zero => intro h _; obtain rfl : p = 0 := by omega
            exact .here
  | succ q ih =>
    intro h hq
    by_cases hpq : p = q + 1
    · subst hpq; exact .here
    · exact .step (ih (by omega) (by omega)) (mem_chain.2 ⟨q, by omega, rfl⟩)
def back (a : Int) (m : Nat) : List Int := (List.range (m + 1)).map fun i => node a (m - i)
theorem back_len (a : Int) (m : Nat) : (back a m).length = m + 1 := by unfold back; rw [List.length_map, List.length_range]
theorem back_at (a : Int) {m i : Nat} (hi : i < (back a m).length) : (back a m)[i] = node a (m - i) := by
  simp [back]
theorem ord_chain {a : Int} {m : Nat} (h1 : 1 ≤ m) (hm : m ≤ 100) : Ord (chain a m) (back a m) := by
  have hl := back_len a m
  refine ⟨?_, fun x => ?_, fun p x s e y hy => ?_, fun p x s e z hz hf => ?_⟩
  · unfold List.Nodup
    rw [List.pairwise_iff_getElem]
    intro i j hi hj hij h
    rw [back_at, back_at] at h
    have := node_inj (by omega) (by omega) h
    omega
  · constructor
    · intro hx
      obtain ⟨i, hi, e⟩ := List.getElem_of_mem hx
      rw [back_at] at e
      by_cases hz : i = 0
      · exact ⟨_, mem_chain.2 ⟨m - 1, by omega, rfl⟩, .inr (by simp only; rw [← e, hz]; congr 1; omega)⟩
      · exact ⟨_, mem_chain.2 ⟨m - i, by omega, rfl⟩, .inl e⟩
    · rintro ⟨p, hp, hx⟩
      obtain ⟨i, hi, rfl⟩ := mem_chain.1 hp
      rcases hx with hx | hx
      · have := List.getElem_mem (show m - i < (back a m).length by omega)
        rw [back_at, show m - (m - i) = i by omega] at this
        rw [← hx]; exact this
      · have := List.getElem_mem (show m - (i + 1) < (back a m).length by omega)
        rw [back_at, show m - (m - (i + 1)) = i + 1 by omega] at this
        rw [← hx]; exact this
  · have hjl : p.length < (back a m).length := by rw [e]; simp
    have hx : x = node a (m - p.length) := by
      rw [← back_at a hjl]
      simp [e]
    obtain ⟨i, hi, e1⟩ := mem_chain.1 hy
    injection e1 with e2 e3
    rw [hx] at e2
    have h3 := node_inj (by omega) (by omega) e2
    have hp1 : p.length - 1 < p.length := by omega
    have h4 : p[p.length - 1] = y := by
      have h5 := back_at a (show p.length - 1 < (back a m).length by omega)
      have h6 : (back a m)[p.length - 1] = p[p.length - 1] := by simp only [e]; rw [List.getElem_append_left hp1]
      rw [← h6, h5, e3]
      congr 1
      omega
    rw [← h4]; exact List.getElem_mem hp1
  · obtain ⟨t, ht, e1⟩ := List.getElem_of_mem hz
    have hjl : p.length + t < (back a m).length := by rw [e, List.length_append]; omega
    have hz2 : z = node a (m - (p.length + t)) := by
      rw [← back_at a hjl, ← e1]
      simp only [e]
      rw [List.getElem_append_right (by omega)]
      congr 1
      omega
    by_cases h0 : t = 0
    · subst h0
      simp only [List.getElem_cons_zero] at e1
      rw [← e1]; exact Int.le_refl _
    · have h2 := hf (node a (m - (p.length + t) + 1)) (mem_chain.2 ⟨m - (p.length + t), by omega, by rw [hz2]⟩)
      obtain ⟨u, hu, e2⟩ := List.getElem_of_mem h2
      have h5 := back_at a (show u < (back a m).length by rw [e, List.length_append]; omega)
      have h6 : (back a m)[u]'(by rw [e, List.length_append]; omega) = p[u] := by simp only [e]; rw [List.getElem_append_left hu]
      rw [h6, e2] at h5
      have := node_inj (by omega) (by omega) h5
      omega
theorem chain_l2 (a : Int) (ha : 0 ≤ a ∧ a ≤ 4294967295) (m : Nat) (h1 : 1 ≤ m) (hm : m ≤ 60) (l8 l5 : List Int) (e8 : l8 = (List.range m).map (node a)) (e5 : l5 = (List.range m).map fun i => node a (i + 1)) :
    ∀ (d k i : Nat), i + d = m + 1 → d + 20 < k → RingsChain.l2 k ((m + 1 : Nat) : Int) (some (back a m)) a l8 l5 i = some true := by
  have hl := back_len a m
  have hle : ∀ x : Int, [x].length = 1 := fun _ => rfl
  have h8 : l8.length = m := by rw [e8, List.length_map, List.length_range]
  have h5 : l5.length = m := by rw [e5, List.length_map, List.length_range]
  intro d
  induction d with
  | zero =>
    intro k i hi hk
    obtain ⟨k, rfl⟩ : ∃ q, k = q + 1 := ⟨k - 1, by omega⟩
    have ew : IntKind.wrap .u32 (IntKind.wrap .u32 (a + IntKind.wrap .u32 ((m + 1 : Nat) : Int)) - 1) = node a m := by
      rw [IntKind.wrap_u32, IntKind.wrap_u32, IntKind.wrap_u32]; unfold node; omega
    have ea : a = node a 0 := by unfold node; omega
    have hxl : (l8 ++ [node a m]).length = (l5 ++ [a]).length := by rw [List.length_append, List.length_append, hle, hle, h8, h5]
    have hz : (l8 ++ [node a m]).zip (l5 ++ [a]) = chain a m ++ [(node a m, node a 0)] := by
      rw [List.zip_append (by omega), e8, e5, List.zip_map', ← ea]; rfl
    have hn : ordR (l8 ++ [node a m]) (l5 ++ [a]) = none := by
      rw [ordR_eq hxl, hz]
      cases ho : ordF (chain a m ++ [(node a m, node a 0)]) with
      | none => rfl
      | some l =>
        refine absurd ⟨(node a m, node a 0), List.mem_append_right _ (List.mem_singleton_self _), ?_⟩ (Ord.of ho).noRing
        exact (chain_cms (Nat.zero_le _) (Nat.le_refl _)).mono fun q hq => List.mem_append_left _ hq
    unfold RingsChain.l2
    rw [iff_ (df (by omega)), ew, if_pos (by rw [hle]; omega), if_pos (by rw [hle]; omega), if_pos (by rw [List.length_append, hle]; omega), lt_is hn, alive_is (by omega), Option.bind_some, if_pos rfl]
    rfl
  | succ d ih =>
    intro k i hi hk
    obtain ⟨k, rfl⟩ : ∃ q, k = q + 1 := ⟨k - 1, by omega⟩
    have hil : i < (back a m).length := by omega
    have g : (back a m).getD i 0 = node a (m - i) := by rw [List.getD_eq_getElem?_getD, List.getElem?_eq_getElem hil, back_at]; rfl
    have ew : IntKind.wrap .u32 (a + IntKind.wrap .u32 (IntKind.wrap .i64 (IntKind.wrap .i64 (((m + 1 : Nat) : Int) - 1) - (i : Int)))) = node a (m - i) := by
      rw [w64 (x := ((m + 1 : Nat) : Int) - 1) (by omega) (by omega), w64 (by omega) (by omega), IntKind.wrap_u32, IntKind.wrap_u32]; unfold node; omega
    unfold RingsChain.l2
    simp only [Option.getD_some, Int.toNat_natCast]
    rw [ift (dt (by omega)), if_pos (by omega), iff_ (bne_no (g.trans ew.symm)), w64s (by omega)]
    exact ih k (i + 1) (by omega) (by omega)
theorem chain_l1 (a : Int) (ha : 0 ≤ a ∧ a ≤ 4294967295) (m : Nat) (h1 : 1 ≤ m) (hm : m ≤ 60) (l1 : List Int) (n1 : l1.length = 2) (v1 : ∀ i, i < 2 → 0 ≤ l1.getD i 0 ∧ l1.getD i 0 ≤ 255) :
    ∀ (d k i : Nat), i + d = m → d + 200 < k → RingsChain.l1 k ((m + 1 : Nat) : Int) a l1 ((List.range i).map fun i => node a (i + 1)) ((List.range i).map (node a)) i = some true := by
  have hle : ∀ x : Int, [x].length = 1 := fun _ => rfl
  intro d
  induction d with
  | zero =>
    intro k i hi hk
    obtain ⟨k, rfl⟩ : ∃ q, k = q + 1 := ⟨k - 1, by omega⟩
    obtain rfl : i = m := by omega
    have c0 := v1 0 (by omega)
    have c1 := v1 1 (by omega)
    have e0 : Int.toNat 0 = 0 := rfl
    have e1 : Int.toNat 1 = 1 := rfl
    have hr : ∀ f : Nat → Int, ((List.range i).map f).length = i := fun f => by rw [List.length_map, List.length_range]
    have hml : ((List.range i).map (node a)).length = ((List.range i).map fun i => node a (i + 1)).length := by rw [hr, hr]
    have hz : ((List.range i).map (node a)).zip ((List.range i).map fun i => node a (i + 1)) = chain a i := by rw [List.zip_map']; rfl
    have hO := ord_chain (a := a) h1 (show i ≤ 100 by omega)
    unfold RingsChain.l1
    rw [w64 (x := (i : Int) + 1) (by omega) (by omega), iff_ (df (by omega)), if_pos (by omega), if_pos (by omega), e0, e1, w64 (x := l1.getD 0 0) (by omega) (by omega), w64 (x := l1.getD 1 0) (by omega) (by omega), tm c0.1, tm c1.1]
    obtain ⟨p, hp, hp2⟩ : ∃ p : Nat, l1.getD 0 0 % ((i + 1 : Nat) : Int) = (p : Int) ∧ p ≤ i := ⟨(l1.getD 0 0 % ((i + 1 : Nat) : Int)).toNat, by have := Int.emod_nonneg (l1.getD 0 0) (show ((i + 1 : Nat) : Int) ≠ 0 by omega); omega, by have := Int.emod_lt_of_pos (l1.getD 0 0) (show (0 : Int) < ((i + 1 : Nat) : Int) by omega); have := Int.emod_nonneg (l1.getD 0 0) (show ((i + 1 : Nat) : Int) ≠ 0 by omega); omega⟩
    obtain ⟨q, hq, hq2⟩ : ∃ p : Nat, l1.getD 1 0 % ((i + 1 : Nat) : Int) = (p : Int) ∧ p ≤ i := ⟨(l1.getD 1 0 % ((i + 1 : Nat) : Int)).toNat, by have := Int.emod_nonneg (l1.getD 1 0) (show ((i + 1 : Nat) : Int) ≠ 0 by omega); omega, by have := Int.emod_lt_of_pos (l1.getD 1 0) (show (0 : Int) < ((i + 1 : Nat) : Int) by omega); have := Int.emod_nonneg (l1.getD 1 0) (show ((i + 1 : Nat) : Int) ≠ 0 by omega); omega⟩
    rw [hp, hq]
    have wp : IntKind.wrap .u32 (p : Int) = p := by rw [IntKind.wrap_u32]; omega
    have wq : IntKind.wrap .u32 (q : Int) = q := by rw [IntKind.wrap_u32]; omega
    have np : IntKind.wrap .u32 (a + (p : Int)) = node a p := by rw [IntKind.wrap_u32]; rfl
    have nq : IntKind.wrap .u32 (a + (q : Int)) = node a q := by rw [IntKind.wrap_u32]; rfl
    rw [wp, wq, lt_is rfl, if_pos (by omega), if_pos (by omega), lt_is rfl, if_pos (by rw [hr]; omega), np, nq, if_pos hml, if_pos hml, hz, lt_is rfl, lt_is rfl, if_pos (by rw [hr]; omega), ordR_eq hml, hz, hO.is, lt_is rfl, iff_ (by rfl)]
    have hc : comesB (chain a i) (node a p) (node a q) = decide ((p : Int) ≤ (q : Int)) := bool_ext (by
      rw [comes_iff, decide_eq_true_eq]
      constructor
      · intro h
        obtain ⟨q', h2, h3, h4⟩ := cms_chain (by omega) hp2 h
        have := node_inj (by omega) (by omega) h4
        omega
      · intro h
        exact chain_cms (by omega) hq2)
    rw [hc, iff_ (by simp), iff_ (by rfl), iff_ (by simp only [Option.getD_some]; rw [back_len]; exact bne_no rfl)]
    exact chain_l2 a ha i h1 hm _ _ rfl rfl (i + 1) k 0 (by omega) (by omega)
  | succ d ih =>
    intro k i hi hk
    obtain ⟨k, rfl⟩ : ∃ q, k = q + 1 := ⟨k - 1, by omega⟩
    have w8 : IntKind.wrap .u32 (a + IntKind.wrap .u32 (i : Int)) = node a i := by
      rw [IntKind.wrap_u32, IntKind.wrap_u32]; unfold node; omega
    have w5 : IntKind.wrap .u32 (node a i + 1) = node a (i + 1) := by
      rw [IntKind.wrap_u32]; unfold node; omega
    have hr : ∀ f : Nat → Int, ((List.range i).map f).length = i := fun f => by rw [List.length_map, List.length_range]
    have r8 : (List.range i).map (node a) ++ [node a i] = (List.range (i + 1)).map (node a) := by rw [List.range_succ, List.map_append]; rfl
    have r5 : ((List.range i).map fun i => node a (i + 1)) ++ [node a (i + 1)] = (List.range (i + 1)).map fun i => node a (i + 1) := by rw [List.range_succ, List.map_append]; rfl
    unfold RingsChain.l1
    rw [w64s (by omega), ift (dt (by omega)), w8, w5, if_pos (by rw [hr, hle]; omega), if_pos (by rw [hr, hle]; omega), r8, r5]
    exact ih k (i + 1) (by omega) (by omega)
theorem RingsChain_pure (a0 : Int) (l1 : List Int) (a2 : Int) (v0 : (Lit.int .u8 a0).wf = true) (n1 : l1.length = 2) (v1 : ∀ n ∈ l1, (Lit.int .u8 n).wf = true) (v2 : (Lit.int .u32 a2).wf = true) : ∃ k, RingsChain.f k a0 l1 a2 = some true := by
  refine ⟨1000, ?_⟩
  have b0 := wfu8 v0
  have b2 := wfu32 v2
  unfold RingsChain.f
  rw [tm b0.1, w64 (x := a0 % 40) (by omega) (by omega), w64 (by omega) (by omega)]
  obtain ⟨m, hm, h1, h2⟩ : ∃ m : Nat, 2 + a0 % 40 = ((m + 1 : Nat) : Int) ∧ 1 ≤ m ∧ m ≤ 60 := ⟨(1 + a0 % 40).toNat, by omega, by omega, by omega⟩
  rw [lt_is hm]
  exact chain_l1 a2 b2 m h1 h2 l1 n1 (fun i hi => wf8 v1 (by omega)) m 1000 0 (by omega) (by omega)
end Go.Proofs.Ytjdholnlbhkmeaa.Pl
