/- The plain law of RingsClose. -/
import Derived.Test.YtjdholnlbhkmeaaDRingsClose
import Derived.IntWalk
namespace Go.Proofs.Ytjdholnlbhkmeaa.Pl
open Go Go.RowKit Sx Base Own

theorem in_l1 (l : List Int) (x : Int) (hl : l.length ≤ 100000) : ∀ (d k i : Nat), i + d = l.length → d < k → in.l1 k l x i = some ((l.drop i).contains x) := by
  intro d
  induction d with
  | zero =>
    intro k i hi hk
    obtain ⟨k, rfl⟩ : ∃ q, k = q + 1 := ⟨k - 1, by omega⟩
    rw [in.l1, iff_ (df (by omega)), List.drop_of_length_le (by omega)]
    rfl
  | succ d ih =>
    intro k i hi hk
    obtain ⟨k, rfl⟩ : ∃ q, k = q + 1 := ⟨k - 1, by omega⟩
    have hil : i < l.length := by omega
    rw [in.l1, ift (dt (by omega)), if_pos (by omega), Int.toNat_natCast, w64s (by omega), List.drop_eq_getElem_cons hil]
    have hg : l.getD i 0 = l[i] := by rw [List.getD_eq_getElem?_getD, List.getElem?_eq_getElem hil]; rfl
    rw [hg, List.contains_cons]
    by_cases h : l[i] = x
    · rw [ift (beq_yes h), beq_yes h.symm]; rfl
    · rw [iff_ (beq_no h), beq_no (fun e => h e.symm), ih k (i + 1) (by omega) (by omega)]; rfl
theorem in_f (l : List Int) (x : Int) (hl : l.length ≤ 100000) {k : Nat} (hk : l.length < k) : in.f k l x = some (l.contains x) := by
  unfold in.f
  exact in_l1 l x hl l.length k 0 (by omega) hk
/-- What has been gathered. -/
structure Gat (es : List (Int × Int)) (a : Int) (l : List Int) : Prop where
  come : ∀ x ∈ l, Cms es a x
  begun : a ∈ l
  size : l.length + away es l ≤ es.length + 1
theorem Gat.more {es : List (Int × Int)} {a : Int} {l : List Int} {p : Int × Int} (h : Gat es a l) (hp : p ∈ es) (h1 : p.1 ∈ l) (h2 : p.2 ∉ l) : Gat es a (l ++ [p.2]) := by
  refine ⟨fun x hx => ?_, List.mem_append_left _ h.begun, ?_⟩
  · rcases List.mem_append.1 hx with hx | hx
    · exact h.come x hx
    · rw [List.mem_singleton] at hx; subst hx; exact .step (h.come _ h1) hp
  · have := away_lt (es := es) (l := l) (l' := l ++ [p.2]) (fun x hx => List.mem_append_left _ hx) hp h2 (List.mem_append_right _ (List.mem_singleton_self _))
    have := h.size
    rw [List.length_append]; simp only [List.length_cons, List.length_nil]; omega
theorem getD_app {l m : List Int} {i : Nat} (h : i < l.length) : (l ++ m).getD i 0 = l.getD i 0 := by
  rw [List.getD_eq_getElem?_getD, List.getElem?_append_left h, ← List.getD_eq_getElem?_getD]
theorem getD_mem' {l : List Int} {i : Nat} (h : i < l.length) : l.getD i 0 ∈ l := by
  rw [List.getD_eq_getElem?_getD, List.getElem?_eq_getElem h]; exact List.getElem_mem h
theorem zip_mem {l0 l1 : List Int} (hl : l1.length = l0.length) {j : Nat} (hj : j < l0.length) : (l0.getD j 0, l1.getD j 0) ∈ l0.zip l1 := by
  have h1 : j < (l0.zip l1).length := by rw [List.length_zip, hl, Nat.min_self]; exact hj
  have : (l0.zip l1)[j] = (l0.getD j 0, l1.getD j 0) := by
    rw [List.getElem_zip, List.getD_eq_getElem?_getD, List.getElem?_eq_getElem hj, List.getD_eq_getElem?_getD, List.getElem?_eq_getElem (by omega)]; rfl
  rw [← this]; exact List.getElem_mem h1
theorem comes_l2 (kl1 : List Int → Int → Option Bool) (l0 l1 : List Int) (hl : l1.length = l0.length) (hb : l0.length ≤ 1000) (a : Int) (i : Nat) (r : Bool) :
    ∀ (d k j : Nat) (l : List Int), j + d = l0.length → d + 2000 < k → Gat (l0.zip l1) a l → i < l.length → (∀ j', j' < j → l0.getD j' 0 = l.getD i 0 → l1.getD j' 0 ∈ l) →
      (∀ l', Gat (l0.zip l1) a l' → (∃ m, l' = l ++ m) → (∀ j', j' < l0.length → l0.getD j' 0 = l.getD i 0 → l1.getD j' 0 ∈ l') → kl1 l' ((i + 1 : Nat) : Int) = some r) → comes.l2 k kl1 l0 i l1 l j = some r := by
  intro d
  have hz : (l0.zip l1).length = l0.length := by rw [List.length_zip, hl, Nat.min_self]
  induction d with
  | zero =>
    intro k j l hj hk h hil hd hr
    obtain ⟨k, rfl⟩ : ∃ q, k = q + 1 := ⟨k - 1, by omega⟩
    have hsz := h.size
    rw [comes.l2, iff_ (df (by omega)), w64s (by omega)]
    exact hr l h ⟨[], by simp⟩ (fun j' hj' => hd j' (by omega))
  | succ d ih =>
    intro k j l hj hk h hil hd hr
    obtain ⟨k, rfl⟩ : ∃ q, k = q + 1 := ⟨k - 1, by omega⟩
    have hsz := h.size
    rw [comes.l2, ift (dt (by omega)), if_pos (by omega), if_pos (by omega)]
    simp only [Int.toNat_natCast]
    unfold comes.j1
    by_cases he : l0.getD j 0 = l.getD i 0
    · rw [ift (beq_yes he), if_pos (by omega), in_f l _ (by omega) (by omega), Option.bind_some]
      by_cases hm : l1.getD j 0 ∈ l
      · rw [iff_ (by simpa using hm), w64s (by omega)]
        exact ih k (j + 1) l (by omega) (by omega) h hil (fun j' hj' e => by
          by_cases hjj : j' = j
          · subst hjj; exact hm
          · exact hd j' (by omega) e) hr
      · rw [ift (by simpa using hm), if_pos (by omega), if_pos (by simp only [List.length_cons, List.length_nil]; omega), w64s (by omega)]
        have hp := zip_mem hl (show j < l0.length by omega)
        have hg := h.more hp (by rw [he]; exact getD_mem' hil) hm
        refine ih k (j + 1) (l ++ [l1.getD j 0]) (by omega) (by omega) hg (by rw [List.length_append]; omega) (fun j' hj' e => ?_) (fun l' h' hpre hall => ?_)
        · rw [getD_app hil] at e
          by_cases hjj : j' = j
          · subst hjj; exact List.mem_append_right _ (List.mem_singleton_self _)
          · exact List.mem_append_left _ (hd j' (by omega) e)
        · obtain ⟨m, rfl⟩ := hpre
          refine hr _ h' ⟨[l1.getD j 0] ++ m, by rw [List.append_assoc]⟩ (fun j' hj' e => hall j' hj' (by rw [getD_app hil]; exact e))
    · rw [iff_ (beq_no he), w64s (by omega)]
      exact ih k (j + 1) l (by omega) (by omega) h hil (fun j' hj' e => by
        by_cases hjj : j' = j
        · subst hjj; exact absurd e he
        · exact hd j' (by omega) e) hr
theorem comes_l1 (l0 l1 : List Int) (hl : l1.length = l0.length) (hb : l0.length ≤ 1000) (a b : Int) :
    ∀ (d k i : Nat) (l : List Int), i + d = l0.length + 1 → d + 4000 < k → Gat (l0.zip l1) a l → i ≤ l.length → (∀ i', i' < i → ∀ y, (l.getD i' 0, y) ∈ l0.zip l1 → y ∈ l) → comes.l1 k l0 l1 b l i = some (comesB (l0.zip l1) a b) := by
  have hz : (l0.zip l1).length = l0.length := by rw [List.length_zip, hl, Nat.min_self]
  have fin : ∀ (k : Nat) (l : List Int), 4000 < k → Gat (l0.zip l1) a l → (∀ i', i' < l.length → ∀ y, (l.getD i' 0, y) ∈ l0.zip l1 → y ∈ l) → comes.l1 k l0 l1 b l (l.length : Int) = some (comesB (l0.zip l1) a b) := by
    intro k l hk h hd
    obtain ⟨k, rfl⟩ : ∃ q, k = q + 1 := ⟨k - 1, by omega⟩
    have hsz := h.size
    rw [comes.l1, iff_ (df (by omega)), in_f l b (by omega) (by omega), Option.bind_some]
    congr 1
    have hcl : closed (l0.zip l1) l := fun p hp hp1 => by
      obtain ⟨i', hi', e⟩ := List.getElem_of_mem hp1
      refine hd i' hi' p.2 ?_
      have : l.getD i' 0 = p.1 := by rw [List.getD_eq_getElem?_getD, List.getElem?_eq_getElem hi', ← e]; rfl
      rw [this]; exact hp
    have h1 : l.contains b = true ↔ comesB (l0.zip l1) a b = true := by
      rw [List.contains_iff_mem, comes_iff]
      exact ⟨h.come b, comes_closed hcl h.begun⟩
    cases q1 : l.contains b <;> cases q2 : comesB (l0.zip l1) a b <;> simp_all
  intro d
  induction d with
  | zero =>
    intro k i l hi hk h hil hd
    have hsz := h.size
    obtain rfl : i = l.length := by omega
    exact fin k l (by omega) h hd
  | succ d ih =>
    intro k i l hi hk h hil hd
    by_cases hlt : i < l.length
    · obtain ⟨k, rfl⟩ : ∃ q, k = q + 1 := ⟨k - 1, by omega⟩
      rw [comes.l1, ift (dt (by omega))]
      refine comes_l2 _ l0 l1 hl hb a i _ l0.length k 0 l (by omega) (by omega) h hlt (fun j' hj' => by omega) (fun l' h' hpre hall => ?_)
      obtain ⟨m, rfl⟩ := hpre
      refine ih k (i + 1) (l ++ m) (by omega) (by omega) h' (by rw [List.length_append]; omega) (fun i' hi' y hy => ?_)
      rw [getD_app (by omega)] at hy
      by_cases hii : i' = i
      · subst hii
        obtain ⟨j', hj', e⟩ := List.getElem_of_mem hy
        rw [hz] at hj'
        rw [List.getElem_zip] at e
        injection e with e1 e2
        have := hall j' hj' (by rw [List.getD_eq_getElem?_getD, List.getElem?_eq_getElem hj']; exact e1)
        rw [List.getD_eq_getElem?_getD, List.getElem?_eq_getElem (by omega)] at this
        rw [← e2]; exact this
      · exact List.mem_append_left _ (hd i' (by omega) y hy)
    · obtain rfl : i = l.length := by omega
      exact fin k l (by omega) h hd
theorem comes_f (l0 l1 : List Int) (hl : l1.length = l0.length) (hb : l0.length ≤ 1000) (a b : Int) {k : Nat} (hk : 10000 < k) : comes.f k l0 l1 a b = some (comesB (l0.zip l1) a b) := by
  unfold comes.f
  have hz : (l0.zip l1).length = l0.length := by rw [List.length_zip, hl, Nat.min_self]
  refine comes_l1 l0 l1 hl hb a b (l0.length + 1) k 0 [a] (by omega) (by omega) ⟨fun x hx => ?_, List.mem_singleton_self a, ?_⟩ (by omega) (fun i' hi' => by omega)
  · rw [List.mem_singleton] at hx; subst hx; exact .here
  · have : away (l0.zip l1) [a] ≤ (l0.zip l1).length := List.length_filter_le _ _
    simp only [List.length_cons, List.length_nil]; omega
theorem RingsClose_pure (l0 : List Int) (l1 : List Int) (l2 : List Int) (hy0 : l0.length ≤ 140737488351232) (v0 : ∀ n ∈ l0, (Lit.int .u32 n).wf = true) (hy1 : l1.length ≤ 140737488351232) (v1 : ∀ n ∈ l1, (Lit.int .u32 n).wf = true) (n2 : l2.length = 2) (v2 : ∀ n ∈ l2, (Lit.int .u32 n).wf = true) : ∃ k, RingsClose.f k l0 l1 l2 = some true := by
  refine ⟨20000, ?_⟩
  unfold RingsClose.f
  by_cases h0 : l0.length ≤ 60
  · rw [iff_ (df (by omega))]
    by_cases h1 : l1.length ≤ 60
    · rw [iff_ (df (by omega)), if_pos (by omega), if_pos (by omega), if_pos (by omega), if_pos (by omega), if_pos (by omega), lt_is rfl, lt_is rfl, if_pos (by omega), if_pos (by omega)]
      unfold Closes.f
      by_cases hl : l0.length = l1.length
      · rw [if_pos hl, if_pos hl, iff_ (bne_no (by omega)), comes_f l0 l1 hl.symm (by omega) _ _ (by omega), Option.bind_some, Option.bind_some]
        simp only
        rw [ift (by simp), ift (by simp), if_pos (by omega), if_pos (by omega)]
      · rw [if_neg hl, if_neg hl, ift (by simp; omega), Option.bind_some]
        simp only
        rw [ift (by simp), ift (by simp), if_pos (by omega), if_pos (by omega)]
    · rw [ift (dt (by omega))]
  · rw [ift (dt (by omega))]
end Go.Proofs.Ytjdholnlbhkmeaa.Pl
