/- The plain law of RingsTwo. -/
import Derived.Test.YtjdholnlbhkmeaaDRingsTwo
import Derived.Test.YtjdholnlbhkmeaaOg
import Derived.IntWalk
namespace Go.Proofs.Ytjdholnlbhkmeaa.Pl
open Go Go.RowKit Sx Base Own

theorem same_l1 (l : List Int) (hl : l.length ≤ 100000) : ∀ (d k i : Nat), i + d = l.length → d < k → SameIds.l1 k l l (i : Int) = some true := by
  intro d
  induction d with
  | zero =>
    intro k i hi hk
    obtain ⟨k, rfl⟩ : ∃ q, k = q + 1 := ⟨k - 1, by omega⟩
    rw [SameIds.l1, iff_ (df (by omega))]
  | succ d ih =>
    intro k i hi hk
    obtain ⟨k, rfl⟩ : ∃ q, k = q + 1 := ⟨k - 1, by omega⟩
    rw [SameIds.l1, ift (dt (by omega)), if_pos (by omega), if_pos (by omega), iff_ (bne_no rfl), w64s (by omega)]
    exact ih k (i + 1) (by omega) (by omega)
theorem same_is (l : List Int) (hl : l.length ≤ 100000) {k : Nat} (hk : l.length < k) : SameIds.f k l l = some true := by
  unfold SameIds.f
  rw [iff_ (bne_no rfl)]
  exact same_l1 l hl l.length k 0 (by omega) hk
theorem alive_is {k : Nat} (hk : 10 < k) : alive.f k = some true := by
  have o1 : ordR [1, 2, 5] [2, 3, 3] = some [3, 2, 1, 5] := by
    rw [ordR_eq (l0 := [1, 2, 5]) (l1 := [2, 3, 3]) rfl, ordF_eq (W := [1, 2, 3, 5]) (by simp) (fun x => by
      simp only [nodeOf, List.zip_cons_cons, List.zip_nil_right, List.mem_cons, List.not_mem_nil, or_false, exists_eq_or_imp, exists_eq_left]
      omega)]
    decide
  have o2 : ordR [1, 2] [2, 1] = none := by
    rw [ordR_eq (l0 := [1, 2]) (l1 := [2, 1]) rfl, ordF_eq (W := [1, 2]) (by simp) (fun x => by
      simp only [nodeOf, List.zip_cons_cons, List.zip_nil_right, List.mem_cons, List.not_mem_nil, or_false, exists_eq_or_imp, exists_eq_left]
      omega)]
    decide
  have o3 : ordR [1] [1] = none := by
    rw [ordR_eq rfl, ordF_eq (W := [1]) (by simp) (fun x => by
      simp only [nodeOf, List.zip_cons_cons, List.zip_nil_right, List.mem_cons, List.not_mem_nil, or_false, exists_eq_left]
      omega)]
    decide
  have o4 : ordR [] [] = some [] := by
    rw [ordR_eq rfl, ordF_eq (W := []) (by simp) (fun x => by simp [nodeOf])]
    rfl
  unfold alive.f
  rw [if_pos (by decide), lt_is (v := true) (by decide), lt_is rfl, if_pos (by decide), lt_is (v := false) (by decide), lt_is rfl, if_pos (by decide), lt_is (v := true) (by decide), lt_is rfl, if_pos (by decide), lt_is (v := false) (by decide), lt_is (v := 1) (by decide)]
  rw [if_pos (by decide), lt_is o1, if_pos (by decide), lt_is o2, if_pos (by decide), lt_is o3, if_pos (by decide), lt_is o4, if_pos rfl, if_pos (by rfl), if_pos rfl, if_pos (by rfl), if_pos (by rfl)]
  simp only [Option.getD_some]
  rw [same_is [3, 2, 1, 5] (by decide) (by simp; omega), Option.bind_some, if_pos rfl, if_pos (by rfl), if_pos (by rfl), if_pos (by rfl), lt_is rfl]
  rfl

theorem or_top (x : Int) : 2147483648 ≤ bitv .or .u32 x 2147483648 := by
  have h1 : (BitVec.ofInt 32 2147483648 : BitVec 32).toNat = 2147483648 := by decide
  have h2 : 2147483648 ≤ (BitVec.ofInt 32 x ||| BitVec.ofInt 32 2147483648 : BitVec 32).toNat := by
    rw [BitVec.toNat_or, h1]; exact Nat.right_le_or
  have h3 := (BitVec.ofInt 32 x ||| BitVec.ofInt 32 2147483648 : BitVec 32).isLt
  show 2147483648 ≤ IntKind.wrap .u32 ((BitVec.ofInt 32 x ||| BitVec.ofInt 32 2147483648 : BitVec 32).toNat : Int)
  rw [IntKind.wrap_u32]
  omega
theorem node_app {es fs : List (Int × Int)} {x : Int} : nodeOf (es ++ fs) x ↔ nodeOf es x ∨ nodeOf fs x := by
  unfold nodeOf
  constructor
  · rintro ⟨p, hp, q⟩
    rcases List.mem_append.1 hp with h | h
    · exact .inl ⟨p, h, q⟩
    · exact .inr ⟨p, h, q⟩
  · rintro (⟨p, hp, q⟩ | ⟨p, hp, q⟩)
    · exact ⟨p, List.mem_append_left _ hp, q⟩
    · exact ⟨p, List.mem_append_right _ hp, q⟩
theorem ord_app {es fs : List (Int × Int)} {a b : List Int} (h1 : Ord es a) (h2 : Ord fs b) (b1 : ∀ x, nodeOf es x → x < 2147483648) (b2 : ∀ x, nodeOf fs x → 2147483648 ≤ x) : Ord (es ++ fs) (a ++ b) := by
  have ha : ∀ x ∈ a, x < 2147483648 := fun x hx => b1 x ((h1.mem x).1 hx)
  have hb : ∀ x ∈ b, 2147483648 ≤ x := fun x hx => b2 x ((h2.mem x).1 hx)
  have n1 : ∀ {x y}, (x, y) ∈ es → x < 2147483648 ∧ y < 2147483648 := fun h => ⟨b1 _ ⟨_, h, .inl rfl⟩, b1 _ ⟨_, h, .inr rfl⟩⟩
  have n2 : ∀ {x y}, (x, y) ∈ fs → 2147483648 ≤ x ∧ 2147483648 ≤ y := fun h => ⟨b2 _ ⟨_, h, .inl rfl⟩, b2 _ ⟨_, h, .inr rfl⟩⟩
  have cut : ∀ {p s : List Int} {x : Int}, a ++ b = p ++ x :: s → (∃ s', a = p ++ x :: s' ∧ s = s' ++ b) ∨ ∃ p', p = a ++ p' ∧ b = p' ++ x :: s := by
    intro p s x e
    rcases List.append_eq_append_iff.1 e with ⟨t, e1, e2⟩ | ⟨t, e1, e2⟩
    · exact .inr ⟨t, e1, e2⟩
    · cases t with
      | nil => rw [List.append_nil] at e1; exact .inr ⟨[], by rw [List.append_nil, e1], by simpa using e2.symm⟩
      | cons y t =>
        rw [List.cons_append, List.cons.injEq] at e2
        exact .inl ⟨t, by rw [e1, e2.1], e2.2⟩
  refine ⟨?_, fun x => ?_, fun p x s e y hy => ?_, fun p x s e z hz hf => ?_⟩
  · rw [List.nodup_append]
    refine ⟨h1.nodup, h2.nodup, fun x hx y hy e => ?_⟩
    have := ha x hx
    have := hb y hy
    omega
  · rw [List.mem_append, h1.mem, h2.mem, node_app]
  · rcases cut e with ⟨s', e1, e2⟩ | ⟨p', e1, e2⟩
    · rcases List.mem_append.1 hy with h | h
      · exact h1.free p x s' e1 y h
      · have := n2 h
        have := ha x (by rw [e1]; exact List.mem_append_right _ List.mem_cons_self)
        omega
    · rcases List.mem_append.1 hy with h | h
      · have := n1 h
        have := hb x (by rw [e2]; exact List.mem_append_right _ List.mem_cons_self)
        omega
      · rw [e1]; exact List.mem_append_right _ (h2.free p' x s e2 y h)
  · rcases cut e with ⟨s', e1, e2⟩ | ⟨p', e1, e2⟩
    · have hx := ha x (by rw [e1]; exact List.mem_append_right _ List.mem_cons_self)
      rw [e2, ← List.cons_append] at hz
      rcases List.mem_append.1 hz with h | h
      · exact h1.least p x s' e1 z h fun y hy => hf y (List.mem_append_left _ hy)
      · have := hb z h
        omega
    · refine h2.least p' x s e2 z hz fun y hy => ?_
      have h3 := hf y (List.mem_append_right _ hy)
      rw [e1] at h3
      rcases List.mem_append.1 h3 with h | h
      · have := ha y h
        have := n2 hy
        omega
      · exact h
theorem ring_app {es fs gs : List (Int × Int)} (h : Ring es) (hs : ∀ p ∈ es, p ∈ gs) : Ring gs := by
  obtain ⟨p, hp, hc⟩ := h
  exact ⟨p, hs p hp, hc.mono hs⟩
def topA (l : List (List Int)) : List Int := l.map fun x => bitv .or .u32 (x.getD 0 0) 2147483648
def topB (l : List (List Int)) : List Int := l.map fun x => bitv .or .u32 (x.getD 1 0) 2147483648
theorem ord_len {es : List (Int × Int)} {n : Nat} (hn : es.length ≤ n) : ((ordF es).getD []).length ≤ 2 * n := by
  cases ho : ordF es with
  | none => simp
  | some l =>
    have h1 := Ord.of ho
    have h2 := (List.perm_ext_iff_of_nodup h1.nodup ((nds_sorted es).imp (fun hab e => by omega))).2 fun x => by rw [h1.mem, nds_mem]
    have h3 : (nds es).length ≤ 2 * es.length := by
      unfold nds
      rw [risen_len, keysM, List.length_map]
      exact wt_len _
    have := h2.length_eq
    simp only [Option.getD_some]
    omega
theorem two_l2 (l0 l1 : List Int) (l2 : List (List Int)) (hl : l0.length = l1.length) (hb : l0.length ≤ 20) (hb2 : l2.length ≤ 20) (s0 : ∀ x ∈ l0, x < 2147483648) (s1 : ∀ x ∈ l1, x < 2147483648) :
    ∀ (d k i : Nat), i + d = l2.length → d + 200 < k → RingsTwo.l2 k l2 l0 l1 ((topB l2).take i) ((topA l2).take i) i = some true := by
  have e0 : Int.toNat 0 = 0 := rfl
  have e1 : Int.toNat 1 = 1 := rfl
  have la : (topA l2).length = l2.length := List.length_map ..
  have lb : (topB l2).length = l2.length := List.length_map ..
  have hle : ∀ x : Int, [x].length = 1 := fun _ => rfl
  intro d
  induction d with
  | zero =>
    intro k i hi hk
    obtain ⟨k, rfl⟩ : ∃ q, k = q + 1 := ⟨k - 1, by omega⟩
    rw [List.take_of_length_le (by omega), List.take_of_length_le (by omega)]
    have hu : (topA l2).length = (topB l2).length := by omega
    have hx : (l0 ++ topA l2).length = (l1 ++ topB l2).length := by rw [List.length_append, List.length_append]; omega
    unfold RingsTwo.l2
    rw [iff_ (df (by omega)), if_pos (by omega), lt_is rfl, if_pos (by omega), lt_is rfl]
    simp only [List.nil_append]
    rw [if_pos (by omega), if_pos (by omega), if_pos (by rw [List.length_append]; omega), lt_is rfl, ordR_eq hl, ordR_eq hu, ordR_eq hx, List.zip_append hl]
    obtain ⟨es, hes⟩ : ∃ es, es = l0.zip l1 := ⟨_, rfl⟩
    obtain ⟨fs, hfs⟩ : ∃ fs, fs = (topA l2).zip (topB l2) := ⟨_, rfl⟩
    rw [← hes, ← hfs]
    have b1 : ∀ x, nodeOf es x → x < 2147483648 := by
      rintro x ⟨⟨u, v⟩, hp, q⟩
      rw [hes] at hp
      have hz := List.of_mem_zip hp
      rcases q with q | q
      · rw [← q]; exact s0 _ hz.1
      · rw [← q]; exact s1 _ hz.2
    have b2 : ∀ x, nodeOf fs x → 2147483648 ≤ x := by
      rintro x ⟨⟨u, v⟩, hp, q⟩
      rw [hfs] at hp
      have hz := List.of_mem_zip hp
      rcases q with q | q
      · obtain ⟨y, _, e⟩ := List.mem_map.1 hz.1
        rw [← q, ← e]; exact or_top _
      · obtain ⟨y, _, e⟩ := List.mem_map.1 hz.2
        rw [← q, ← e]; exact or_top _
    have n1 : es.length ≤ 20 := by rw [hes, List.length_zip]; omega
    have n2 : fs.length ≤ 20 := by rw [hfs, List.length_zip]; omega
    have k1 := ord_len n1
    have k2 := ord_len n2
    have no : ∀ {gs : List (Int × Int)}, ordF gs = none → Ring gs := fun {gs} h => Classical.byContradiction fun hr => by
      have := (ord_iff gs).2 hr
      rw [h] at this; cases this
    have yes : ∀ {gs : List (Int × Int)}, Ring gs → ordF gs = none := fun {gs} h => by
      cases hg : ordF gs with
      | none => rfl
      | some l => exact absurd h (Ord.of hg).noRing
    cases h1 : ordF es with
    | none =>
      rw [yes (ring_app (fs := []) (no h1) fun p hp => List.mem_append_left fs hp)]
      rfl
    | some a =>
      cases h2 : ordF fs with
      | none =>
        rw [yes (ring_app (fs := []) (no h2) fun p hp => List.mem_append_right es hp)]
        rfl
      | some b =>
        rw [h1] at k1
        rw [h2] at k2
        simp only [Option.getD_some] at k1 k2
        rw [(ord_app (Ord.of h1) (Ord.of h2) b1 b2).is]
        simp only [Option.getD_some]
        rw [if_pos (by rfl), if_pos (by rfl), iff_ (by rfl), if_pos (by omega), if_pos (by omega), same_is _ (by rw [List.length_append]; omega) (by rw [List.length_append]; omega)]
        trivial
  | succ d ih =>
    intro k i hi hk
    obtain ⟨k, rfl⟩ : ∃ q, k = q + 1 := ⟨k - 1, by omega⟩
    have hil : i < l2.length := by omega
    have g : l2.getD i [] = l2[i] := by rw [List.getD_eq_getElem?_getD, List.getElem?_eq_getElem hil]; rfl
    have ta : ((topA l2).take i).length = i := by rw [List.length_take]; omega
    have tb : ((topB l2).take i).length = i := by rw [List.length_take]; omega
    have qa : (topA l2).take i ++ [bitv .or .u32 ((l2.getD i []).getD 0 0) 2147483648] = (topA l2).take (i + 1) := by
      rw [List.take_succ_eq_append_getElem (by omega), g]; simp [topA]
    have qb : (topB l2).take i ++ [bitv .or .u32 ((l2.getD i []).getD 1 0) 2147483648] = (topB l2).take (i + 1) := by
      rw [List.take_succ_eq_append_getElem (by omega), g]; simp [topB]
    unfold RingsTwo.l2
    simp only [Int.toNat_natCast, e0, e1]
    rw [ift (dt (by omega)), if_pos (by omega), if_pos (by rw [hle, ta]; omega), if_pos (by omega), if_pos (by rw [hle, tb]; omega), qa, qb, w64s (by omega)]
    exact ih k (i + 1) (by omega) (by omega)
theorem two_l1 (l0 l1 : List Int) (l2 : List (List Int)) (hl : l0.length = l1.length) (hb : l0.length ≤ 20) (hb2 : l2.length ≤ 20) :
    ∀ (d k i : Nat), i + d = l0.length → d + 400 < k → (∀ j, j < i → l0.getD j 0 < 2147483648 ∧ l1.getD j 0 < 2147483648) → RingsTwo.l1 k l0 l1 l2 i = some true := by
  have hn0 : ([] : List Int).length = 0 := rfl
  intro d
  induction d with
  | zero =>
    intro k i hi hk hs
    obtain ⟨k, rfl⟩ : ∃ q, k = q + 1 := ⟨k - 1, by omega⟩
    unfold RingsTwo.l1
    rw [iff_ (df (by omega)), if_pos (by rw [hn0]; omega), if_pos (by rw [hn0]; omega)]
    refine two_l2 l0 l1 l2 hl hb hb2 (fun x hx => ?_) (fun x hx => ?_) l2.length k 0 (by omega) (by omega)
    · obtain ⟨j, hj, e⟩ := List.getElem_of_mem hx
      have := (hs j (by omega)).1
      rw [List.getD_eq_getElem?_getD, List.getElem?_eq_getElem hj] at this
      rw [← e]; exact this
    · obtain ⟨j, hj, e⟩ := List.getElem_of_mem hx
      have := (hs j (by omega)).2
      rw [List.getD_eq_getElem?_getD, List.getElem?_eq_getElem hj] at this
      rw [← e]; exact this
  | succ d ih =>
    intro k i hi hk hs
    obtain ⟨k, rfl⟩ : ∃ q, k = q + 1 := ⟨k - 1, by omega⟩
    unfold RingsTwo.l1
    simp only [Int.toNat_natCast]
    rw [ift (dt (by omega)), if_pos (by omega)]
    by_cases q0 : l0.getD i 0 ≥ 2147483648
    · rw [ift (dt q0)]
    · rw [iff_ (df q0), if_pos (by omega)]
      by_cases q1 : l1.getD i 0 ≥ 2147483648
      · rw [ift (dt q1)]
      · rw [iff_ (df q1), w64s (by omega)]
        refine ih k (i + 1) (by omega) (by omega) fun j hj => ?_
        by_cases hji : j = i
        · subst hji; omega
        · exact hs j (by omega)
theorem RingsTwo_pure (l0 : List Int) (l1 : List Int) (l2 : List (List Int)) (hy0 : l0.length ≤ 140737488351232) (v0 : ∀ n ∈ l0, (Lit.int .u32 n).wf = true) (hy1 : l1.length ≤ 140737488351232) (v1 : ∀ n ∈ l1, (Lit.int .u32 n).wf = true) (hc2 : l2.length ≤ maxLen) (v2 : ∀ x ∈ l2, x.length = 2 ∧ ∀ z ∈ x, (Lit.int .u32 z).wf = true) : ∃ k, RingsTwo.f k l0 l1 l2 = some true := by
  refine ⟨1000, ?_⟩
  unfold RingsTwo.f
  rw [alive_is (by omega), Option.bind_some, iff_ (by rfl)]
  by_cases h0 : l0.length ≤ 20
  · rw [iff_ (df (by omega))]
    by_cases hl : l0.length = l1.length
    · rw [iff_ (bne_no (by omega))]
      by_cases h2 : l2.length ≤ 20
      · rw [iff_ (df (by omega))]
        exact two_l1 l0 l1 l2 hl h0 h2 l0.length 1000 0 (by omega) (by omega) (fun j hj => by omega)
      · rw [ift (dt (by omega)), Option.bind_some]
    · rw [ift (by simp; omega), Option.bind_some]
  · rw [ift (dt (by omega)), Option.bind_some]
end Go.Proofs.Ytjdholnlbhkmeaa.Pl
