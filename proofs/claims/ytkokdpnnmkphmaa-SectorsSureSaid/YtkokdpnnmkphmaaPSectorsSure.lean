/- The plain law of SectorsSure. -/
import Derived.Test.YtkokdpnnmkphmaaDSectorsSure
import Derived.Test.YtkokdpnnmkphmaaPh04
namespace Go.Proofs.Ytkokdpnnmkphmaa.Pl
open Go Go.RowKit Sx Base Own Disk Bytes

theorem by_at (l : List Int) (i : Nat) : (byOf l i).length = 64 ∧ (byOf l i).getD 0 0 = (i : Int) % 256 ∧ (byOf l i).getD 1 0 = l.getD i 0 % 256 := ⟨(byOf_pc l i).1, rfl, rfl⟩
theorem sure_l2 (K : Int → Option Bool) (l : List Int) (s a : Nat) (keep : Int) (D : Dk) (ha : a < 8) (hs : s ≤ l.length) (hl : l.length ≤ 100) (hk0 : 0 ≤ keep) (hk1 : keep ≤ 18446744073709551615) (v : ∀ n ∈ l, (Lit.int .u16 n).wf = true)
    (hD : D.seen.length = 8) (hp : D.seen.getD a [] = shown l (lastW (pS s keep) l a l.length)) (r : Option Bool) (hr : K ((a + 1 : Nat) : Int) = r) :
    ∀ (d k j : Nat), j + d = l.length → d < k → SectorsSure.l2 k K l s a keep D (want (lastW (pS s keep) l a j)) (j : Int) = r := by
  intro d
  induction d with
  | zero =>
    intro k j hj hk
    obtain ⟨k, rfl⟩ : ∃ m, k = m + 1 := ⟨k - 1, by omega⟩
    obtain rfl : j = l.length := by omega
    rw [SectorsSure.l2, iff_ (df (by omega)), if_pos (by omega), Int.toNat_natCast, hp, lt_is rfl]
    have hj3 : SectorsSure.j3 K (a : Int) = r := by unfold SectorsSure.j3; rw [w64s (by omega)]; exact hr
    cases hw : lastW (pS s keep) l a l.length with
    | none =>
      rw [show shown l none = List.replicate 64 0 from rfl]
      rw [iff_ (by decide)]
      show (if decide ((-1 : Int) < 0) = true then _ else _) = r
      rw [ift (by decide), if_pos (by decide), iff_ (by decide), if_pos (by decide), iff_ (by decide)]
      show (if decide ((-1 : Int) ≥ 0) = true then _ else _) = r
      rw [iff_ (by decide)]
      exact hj3
    | some i =>
      obtain ⟨hi, -, -⟩ := lastW_lt hw
      obtain ⟨h1, h2, h3⟩ := by_at l i
      have hy := wf16 v hi
      rw [show shown l (some i) = byOf l i from rfl, h1, iff_ (by decide)]
      show (if decide ((i : Int) < 0) = true then _ else _) = r
      rw [iff_ (df (by omega))]
      show (if decide ((i : Int) ≥ 0) = true then _ else _) = r
      rw [ift (dt (by omega)), if_pos (by decide)]
      show (if ((byOf l i).getD 0 0 != IntKind.wrap .u8 (i : Int)) = true then _ else _) = r
      rw [h2, iff_ (bne_no (wu8 _).symm), if_pos (by decide)]
      show (if 0 ≤ (i : Int) ∧ (i : Int) < (l.length : Int) then (if ((byOf l i).getD 1 0 != IntKind.wrap .u8 (l.getD (Int.toNat (i : Int)) 0)) = true then _ else _) else _) = r
      rw [if_pos (by omega), h3, Int.toNat_natCast, iff_ (bne_no (wu8 _).symm)]
      exact hj3
  | succ d ih =>
    intro k j hj hk
    obtain ⟨k, rfl⟩ : ∃ m, k = m + 1 := ⟨k - 1, by omega⟩
    rw [SectorsSure.l2, ift (dt (by omega))]
    have hy := wf16 v (i := j) (by omega)
    have hj5 : SectorsSure.j5 (SectorsSure.l2 k K l s a keep D) (j : Int) l (a : Int) (want (lastW (pS s keep) l a j)) (pS s keep j) = r := by
      unfold SectorsSure.j5 SectorsSure.j4
      rw [if_pos (by omega), Int.toNat_natCast, w64 (by omega) (by omega), tm (by omega), w64s (by omega)]
      have hi := ih k (j + 1) (by omega) (by omega)
      by_cases hc : l.getD j 0 % 8 = (a : Int)
      · rw [ift (beq_yes hc)]
        cases hb : pS s keep j with
        | true => rw [if_pos rfl]; rw [last_yes _ _ _ _ hb hc] at hi; exact hi
        | false => rw [if_neg (by decide)]; rw [last_no _ _ _ _ (.inl hb)] at hi; exact hi
      · rw [iff_ (beq_no hc)]; rw [last_no _ _ _ _ (.inr hc)] at hi; exact hi
    by_cases hjs : j < s
    · rw [ift (dt (by omega))]
      have : pS s keep j = true := by simp [pS, hjs]
      rw [this] at hj5; exact hj5
    · have e : ((j : Int) - (s : Int)) = ((j - s : Nat) : Int) := by omega
      have hps : pS s keep j = kept keep (j - s) := by simp [pS, hjs]
      rw [iff_ (df (by omega)), e, w64 (by omega) (by omega)]
      by_cases h64 : j - s < 64
      · have e2 : IntKind.wrap .u64 ((j - s : Nat) : Int) = ((j - s : Nat) : Int) := IntWalk.u64_in _ ⟨by omega, by omega⟩
        rw [ift (dt (by omega)), e2, if_pos (by omega), Int.toNat_natCast, kept_small hk0 hk1, lt_is hps.symm]
        exact hj5
      · rw [iff_ (df (by omega))]
        rw [hps, kept_big hk0 hk1 (by omega)] at hj5; exact hj5
theorem sure_l1 (l : List Int) (s : Nat) (keep : Int) (D : Dk) (hs : s ≤ l.length) (hl : l.length ≤ 100) (hk0 : 0 ≤ keep) (hk1 : keep ≤ 18446744073709551615) (v : ∀ n ∈ l, (Lit.int .u16 n).wf = true)
    (hD : D.seen.length = 8) (hp : ∀ a, a < 8 → D.seen.getD a [] = shown l (lastW (pS s keep) l a l.length)) :
    ∀ (d k a : Nat), a + d = 8 → d + l.length + 1 < k → SectorsSure.l1 k l s keep D (a : Int) = some true := by
  intro d
  induction d with
  | zero =>
    intro k a ha hk
    obtain ⟨k, rfl⟩ : ∃ m, k = m + 1 := ⟨k - 1, by omega⟩
    rw [SectorsSure.l1, iff_ (df (by omega))]
  | succ d ih =>
    intro k a ha hk
    obtain ⟨k, rfl⟩ : ∃ m, k = m + 1 := ⟨k - 1, by omega⟩
    rw [SectorsSure.l1, ift (dt (by omega))]
    exact sure_l2 _ l s a keep D (by omega) hs hl hk0 hk1 v hD (hp a (by omega)) _ (ih k (a + 1) (by omega) (by omega)) l.length k 0 (by omega) (by omega)
theorem sure_j1 (l : List Int) (s : Nat) (keep : Int) (k : Nat) (hk : 200 ≤ k) (hs : s ≤ l.length) (hl : l.length ≤ 100) (hk0 : 0 ≤ keep) (hk1 : keep ≤ 18446744073709551615) (v : ∀ n ∈ l, (Lit.int .u16 n).wf = true) : SectorsSure.j1 k l keep s = some true := by
  unfold SectorsSure.j1
  rw [if_pos (by omega), lt_is rfl]
  have hw := dS_waits l s l.length hs
  have hf := fun a ha => dS_fail l s l.length hs keep a ha
  have hj2 : SectorsSure.j2 k keep l s (dS l s l.length) = some true := by
    unfold SectorsSure.j2
    rw [if_pos ⟨by omega, by decide⟩, lt_is rfl, iff_ (by rfl), hw, iff_ (bne_no (by rw [w64 (by omega) (by omega)]; omega))]
    exact sure_l1 l s keep _ hs hl hk0 hk1 v (hf 0 (by omega)).1 (fun a ha => (hf a ha).2) 8 k 0 (by omega) (by omega)
  unfold dS at hj2
  by_cases h : s = l.length
  · rw [if_pos h] at hj2; rw [ift (beq_yes (by omega))]; exact hj2
  · rw [if_neg h] at hj2; rw [iff_ (beq_no (by omega))]; exact hj2
theorem SectorsSure_pure (l0 : List Int) (a1 : Int) (a2 : Int) (hy0 : l0.length ≤ 140737488351232) (v0 : ∀ n ∈ l0, (Lit.int .u16 n).wf = true) (v1 : (Lit.int .u8 a1).wf = true) (v2 : (Lit.int .u64 a2).wf = true) : ∃ k, SectorsSure.f k l0 a1 a2 = some true := by
  refine ⟨300, ?_⟩
  unfold SectorsSure.f
  have h1 := wfu8 v1
  have h2 := wfu64 v2
  by_cases hl : l0.length > 100
  · rw [ift (dt (by omega))]
  rw [iff_ (df (by omega))]
  by_cases hp : l0.length > 0
  · rw [ift (dt (by omega)), w64 (x := (l0.length : Int) + 1) (by omega) (by omega), if_pos (by omega), w64 (by omega) (by omega), tm (by omega)]
    have h3 : 0 ≤ a1 % ((l0.length : Int) + 1) := Int.emod_nonneg _ (by omega)
    have h4 : a1 % ((l0.length : Int) + 1) < (l0.length : Int) + 1 := Int.emod_lt_of_pos _ (by omega)
    rw [lt_is (show a1 % ((l0.length : Int) + 1) = ((a1 % ((l0.length : Int) + 1)).toNat : Int) by omega)]
    exact sure_j1 l0 _ a2 300 (by omega) (by omega) (by omega) h2.1 h2.2 v0
  · rw [iff_ (df (by omega))]
    exact sure_j1 l0 0 a2 300 (by omega) (by omega) (by omega) h2.1 h2.2 v0
end Go.Proofs.Ytkokdpnnmkphmaa.Pl
