/- The plain law of SectorsAll. -/
import Derived.Test.YtkokdpnnmkphmaaDSectorsAll
import Derived.Test.YtkokdpnnmkphmaaPh04
namespace Go.Proofs.Ytkokdpnnmkphmaa.Pl
open Go Go.RowKit Sx Base Own Disk Bytes

theorem same_l1 (l : List Int) (hl : l.length ≤ 1000000) : ∀ (d k n : Nat), n + d = l.length → d < k → SameBytes.l1 k l l (n : Int) = some true := by
  intro d
  induction d with
  | zero =>
    intro k n hn hk
    obtain ⟨k, rfl⟩ : ∃ m, k = m + 1 := ⟨k - 1, by omega⟩
    rw [SameBytes.l1, iff_ (df (by omega))]
  | succ d ih =>
    intro k n hn hk
    obtain ⟨k, rfl⟩ : ∃ m, k = m + 1 := ⟨k - 1, by omega⟩
    rw [SameBytes.l1, ift (dt (by omega)), if_pos (by omega), if_pos (by omega), iff_ (bne_no rfl), w64s (by omega)]
    exact ih k (n + 1) (by omega) (by omega)
theorem same_ok (l m : List Int) (h : l = m) (hl : l.length ≤ 1000000) (k : Nat) (hk : l.length < k) : SameBytes.f k l m = some true := by
  subst h
  unfold SameBytes.f
  rw [iff_ (bne_no rfl)]
  exact same_l1 l hl l.length k 0 (by omega) hk
theorem all_l1 (D9 D7 D11 D6 : Dk) (h9 : D9.seen.length = 8) (h7 : D7.seen.length = 8) (h11 : D11.seen.length = 8) (h6 : D6.seen.length = 8)
    (e1 : ∀ a, a < 8 → D9.seen.getD a [] = D7.seen.getD a [] ∧ (D9.seen.getD a []).length = 64) (e2 : ∀ a, a < 8 → D11.seen.getD a [] = D6.seen.getD a [] ∧ (D11.seen.getD a []).length = 64) :
    ∀ (d k a : Nat), a + d = 8 → d + 66 < k → SectorsAll.l1 k D9 D7 D11 D6 (a : Int) = some true := by
  intro d
  induction d with
  | zero =>
    intro k a ha hk
    obtain ⟨k, rfl⟩ : ∃ m, k = m + 1 := ⟨k - 1, by omega⟩
    rw [SectorsAll.l1, iff_ (df (by omega))]
  | succ d ih =>
    intro k a ha hk
    obtain ⟨k, rfl⟩ : ∃ m, k = m + 1 := ⟨k - 1, by omega⟩
    obtain ⟨g1, g2⟩ := e1 a (by omega)
    obtain ⟨g3, g4⟩ := e2 a (by omega)
    rw [SectorsAll.l1, ift (dt (by omega)), Int.toNat_natCast, if_pos (by omega), lt_is rfl, if_pos (by omega), lt_is rfl, if_pos (by omega), lt_is rfl, if_pos (by omega), lt_is rfl, g2, iff_ (by decide), g4, iff_ (by decide),
      same_ok _ _ g1 (by omega) k (by omega)]
    show (if (!true) = true then none else _) = _
    rw [iff_ (by decide), same_ok _ _ g3 (by omega) k (by omega)]
    show (if (!true) = true then none else _) = _
    rw [iff_ (by decide), w64s (by omega)]
    exact ih k (a + 1) (by omega) (by omega)
theorem shown_len (l : List Int) (o : Option Nat) : (shown l o).length = 64 := by
  cases o with
  | none => simp [shown]
  | some i => exact (byOf_pc l i).1
theorem lastW_cut (l : List Int) (a s : Nat) : ∀ m, lastW (pS s 0) l a (s + m) = lastW (fun _ => true) l a s := by
  intro m
  induction m with
  | zero => exact lastW_congr _ _ _ _ _ fun i hi => by simp [pS]; omega
  | succ m ih =>
    show lastW (pS s 0) l a (s + m + 1) = _
    rw [lastW, if_neg, ih]
    have : pS s 0 (s + m) = false := by
      have : kept 0 m = false := by unfold kept; simp
      simp [pS, this]
    simp [this]
theorem kept_ones {i : Nat} (hi : i < 64) : kept 18446744073709551615 i = true := by
  have : ∀ i : Fin 64, kept 18446744073709551615 i.val = true := by decide
  exact this ⟨i, hi⟩
theorem lastW_list (l m : List Int) (a : Nat) : ∀ k, (∀ i, i < k → l.getD i 0 = m.getD i 0) → shown l (lastW (fun _ => true) l a k) = shown m (lastW (fun _ => true) m a k) := by
  intro k
  induction k with
  | zero => intro _; rfl
  | succ k ih =>
    intro h
    have hk := h k (by omega)
    have e : secOf l k = secOf m k := by unfold secOf; rw [hk]
    unfold lastW
    rw [e]
    split
    · show byOf l k = byOf m k
      unfold byOf; rw [hk]
    · exact ih fun i hi => h i (by omega)
theorem all_j1 (l : List Int) (s : Nat) (k : Nat) (hk : 200 ≤ k) (hs : s ≤ l.length) (hl : l.length ≤ 60) : SectorsAll.j1 k l s = some true := by
  unfold SectorsAll.j1
  have ht : (l.take s).length = s := by rw [List.length_take]; omega
  rw [if_pos (by omega), lt_is rfl, if_pos (by omega), Int.toNat_natCast, ht, if_pos (by omega), lt_is rfl]
  have hw := dS_waits l s l.length hs
  have hf := fun keep a ha => dS_fail l s l.length hs keep a ha
  have hj2 : SectorsAll.j2 k (wrK (l.take s) s s) (dS l s l.length) = some true := by
    unfold SectorsAll.j2
    rw [if_pos ⟨by omega, by decide⟩, lt_is rfl, if_pos ⟨by omega, by decide⟩, lt_is rfl]
    have hse : (dS l s l.length).seen = (wrK l s l.length).seen := by unfold dS; split <;> rfl
    refine all_l1 _ _ _ _ (hf _ 0 (by omega)).1 (by rw [hse]; exact (wrK_len _ _ _).1) (hf _ 0 (by omega)).1 (wrK_len _ _ _).1 (fun a ha => ?_) (fun a ha => ?_) 8 k 0 (by omega) (by omega)
    · rw [(hf _ a ha).2, hse, seen_wr l s a ha]
      refine ⟨?_, shown_len _ _⟩
      congr 1
      refine lastW_congr _ _ _ _ _ fun i hi => ?_
      by_cases h : i < s
      · simp [pS, h]
      · simp [pS, kept_ones (show i - s < 64 by omega)]
    · rw [(hf _ a ha).2, seen_wr (l.take s) s a ha]
      refine ⟨?_, shown_len _ _⟩
      have := lastW_cut l a s (l.length - s)
      rw [show s + (l.length - s) = l.length by omega] at this
      rw [this]
      refine lastW_list _ _ _ _ fun i hi => ?_
      rw [List.getD_eq_getElem?_getD, List.getD_eq_getElem?_getD, List.getElem?_take_of_lt hi]
  unfold dS at hj2
  by_cases h : s = l.length
  · rw [if_pos h] at hj2; rw [ift (beq_yes (by omega))]; exact hj2
  · rw [if_neg h] at hj2; rw [iff_ (beq_no (by omega))]; exact hj2
theorem SectorsAll_pure (l0 : List Int) (a1 : Int) (hy0 : l0.length ≤ 140737488351232) (v0 : ∀ n ∈ l0, (Lit.int .u16 n).wf = true) (v1 : (Lit.int .u8 a1).wf = true) : ∃ k, SectorsAll.f k l0 a1 = some true := by
  refine ⟨300, ?_⟩
  unfold SectorsAll.f
  have h1 := wfu8 v1
  by_cases hl : l0.length > 60
  · rw [ift (dt (by omega))]
  rw [iff_ (df (by omega))]
  by_cases hp : l0.length > 0
  · rw [ift (dt (by omega)), w64 (x := (l0.length : Int) + 1) (by omega) (by omega), if_pos (by omega), w64 (by omega) (by omega), tm (by omega)]
    have h3 : 0 ≤ a1 % ((l0.length : Int) + 1) := Int.emod_nonneg _ (by omega)
    have h4 : a1 % ((l0.length : Int) + 1) < (l0.length : Int) + 1 := Int.emod_lt_of_pos _ (by omega)
    rw [lt_is (show a1 % ((l0.length : Int) + 1) = ((a1 % ((l0.length : Int) + 1)).toNat : Int) by omega)]
    exact all_j1 l0 _ 300 (by omega) (by omega) (by omega)
  · rw [iff_ (df (by omega))]
    exact all_j1 l0 0 300 (by omega) (by omega) (by omega)
end Go.Proofs.Ytkokdpnnmkphmaa.Pl
