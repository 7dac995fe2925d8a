/- The plain law of SectorsSeen. -/
import Derived.Test.YtkokdpnnmkphmaaDSectorsSeen
import Derived.Test.YtkokdpnnmkphmaaPh04
namespace Go.Proofs.Ytkokdpnnmkphmaa.Pl
open Go Go.RowKit Sx Base Own Disk Bytes

theorem seen_l2 (b3 : Bool) (l0 p : List Int) (hl : l0.length ≤ 64) (hp : p = if b3 = true then pad l0 else List.replicate 64 0) :
    ∀ (d k n : Nat), n + d = 64 → d < k → SectorsSeen.l2 k b3 l0 p (n : Int) = some true := by
  have hpl : p.length = 64 := by rw [hp]; split <;> simp [pad]; omega
  intro d
  induction d with
  | zero =>
    intro k n hn hk
    obtain ⟨k, rfl⟩ : ∃ m, k = m + 1 := ⟨k - 1, by omega⟩
    rw [SectorsSeen.l2, iff_ (df (by omega))]
  | succ d ih =>
    intro k n hn hk
    obtain ⟨k, rfl⟩ : ∃ m, k = m + 1 := ⟨k - 1, by omega⟩
    rw [SectorsSeen.l2, ift (dt (by omega))]
    have hj : ∀ y, y = p.getD n 0 → SectorsSeen.j3 (SectorsSeen.l2 k b3 l0 p) n p y = some true := by
      rintro y rfl
      unfold SectorsSeen.j3
      rw [hpl, Int.toNat_natCast, if_pos (by omega), iff_ (bne_no rfl), w64s (by omega)]
      exact ih k (n + 1) (by omega) (by omega)
    by_cases hb : b3 = true
    · rw [ift hb]
      rw [if_pos hb] at hp
      by_cases hl0 : n < l0.length
      · rw [ift (dt (by omega)), if_pos (by omega)]
        apply hj
        rw [hp, Int.toNat_natCast, pad, List.getD_eq_getElem?_getD, List.getD_eq_getElem?_getD, List.getElem?_append_left hl0]
      · rw [iff_ (df (by omega))]
        apply hj
        rw [hp, pad, List.getD_eq_getElem?_getD, List.getElem?_append_right (by omega), List.getElem?_replicate]
        split <;> rfl
    · rw [if_neg hb]
      rw [if_neg hb] at hp
      apply hj
      rw [hp, List.getD_eq_getElem?_getD, List.getElem?_replicate]
      split <;> rfl
theorem seen_l1 (l0 l1 : List Int) (q : Nat) (hq20 : q < 20) (hl : l0.length ≤ 64) (hl1 : l1.length ≤ 60) (v1 : ∀ n ∈ l1, (Lit.int .u8 n).wf = true) :
    ∀ (d k n : Nat) (D : Dk) (b : Bool), n + d = l1.length → d + 65 < k → D.seen.length = 20 → D.waits.length ≤ n → D.seen.getD q [] = (if b = true then pad l0 else List.replicate 64 0) → SectorsSeen.l1 k l1 l0 (q : Int) D b (n : Int) = some true := by
  intro d
  induction d with
  | zero =>
    intro k n D b hn hk hD hw hs
    obtain ⟨k, rfl⟩ : ∃ m, k = m + 1 := ⟨k - 1, by omega⟩
    have hpl : (D.seen.getD q []).length = 64 := by rw [hs]; split <;> simp [pad]; omega
    rw [SectorsSeen.l1, iff_ (df (by omega)), Int.toNat_natCast, if_pos (by omega), lt_is rfl, hpl, iff_ (by decide)]
    exact seen_l2 b l0 _ hl hs 64 k 0 (by omega) (by omega)
  | succ d ih =>
    intro k n D b hn hk hD hw hs
    obtain ⟨k, rfl⟩ : ∃ m, k = m + 1 := ⟨k - 1, by omega⟩
    rw [SectorsSeen.l1, ift (dt (by omega)), if_pos (by omega), Int.toNat_natCast, if_pos (by omega)]
    have hy := wf8 v1 (i := n) (by omega)
    generalize hyd : l1.getD n 0 = y at hy
    obtain ⟨p, hp⟩ : ∃ p : Nat, Int.tmod (IntKind.wrap .i64 y) 20 = p := ⟨(y % 20).toNat, by rw [w64 (by omega) (by omega), tm (by omega)]; omega⟩
    have hp20 : p < 20 := by rw [w64 (by omega) (by omega), tm (by omega)] at hp; omega
    obtain ⟨h1, h2⟩ := wr_ok (D := D) (x := p) (b := l0) (by omega) (by omega) hl
    rw [hp, h1, h2, lt_is rfl, iff_ (by decide), if_pos (by omega)]
    have hset : (D.seen.set p (pad l0)).getD q [] = if p = q then pad l0 else D.seen.getD q [] := getD_set _ _ _ _ _ (by omega)
    have hj2 : ∀ (D' : Dk), D'.seen.length = 20 → D'.waits.length ≤ n + 1 → D'.seen = D.seen.set p (pad l0) → SectorsSeen.j2 (SectorsSeen.l1 k l1 l0 q) b n l1 q D' = some true := by
      intro D' g1 g2 g3
      unfold SectorsSeen.j2
      by_cases hb : b = true
      · rw [ift hb]
        unfold SectorsSeen.j1
        rw [w64s (by omega)]
        refine ih k (n + 1) D' true (by omega) (by omega) g1 g2 ?_
        rw [g3, hset, hs, if_pos hb, if_pos rfl]; split <;> rfl
      · have hb' : b = false := by simpa using hb
        rw [iff_ hb', if_pos (by omega), Int.toNat_natCast, hyd, hp, lt_is rfl]
        unfold SectorsSeen.j1
        rw [w64s (by omega)]
        refine ih k (n + 1) D' _ (by omega) (by omega) g1 g2 ?_
        rw [g3, hset, hs, if_neg hb]
        by_cases hpq : p = q
        · rw [if_pos hpq, if_pos (by simp [hpq])]
        · rw [if_neg hpq, if_neg (by simp; omega)]
    have e1 : (D.write p (pad l0)).seen = D.seen.set p (pad l0) := rfl
    have e2 : (D.write p (pad l0)).waits.length = D.waits.length + 1 := by simp [Dk.write]
    split
    · exact hj2 _ (by show (D.write p (pad l0)).seen.length = 20; rw [e1, List.length_set]; exact hD) (by simp [Dk.sync]) rfl
    · exact hj2 _ (by rw [e1, List.length_set]; exact hD) (by omega) rfl
theorem SectorsSeen_pure (l0 : List Int) (l1 : List Int) (a2 : Int) (hy0 : l0.length ≤ 140737488351232) (v0 : ∀ n ∈ l0, (Lit.int .u8 n).wf = true) (hy1 : l1.length ≤ 140737488351232) (v1 : ∀ n ∈ l1, (Lit.int .u8 n).wf = true) (v2 : (Lit.int .u8 a2).wf = true) : ∃ k, SectorsSeen.f k l0 l1 a2 = some true := by
  refine ⟨200, ?_⟩
  unfold SectorsSeen.f
  by_cases h1 : l1.length > 60
  · rw [ift (dt (by omega))]
  rw [iff_ (df (by omega))]
  by_cases h2 : l0.length > 64
  · rw [ift (dt (by omega))]
  rw [iff_ (df (by omega))]
  have ha := wfu8 v2
  have hb : Int.tmod (IntKind.wrap .i64 a2) 20 = ((a2 % 20).toNat : Int) := by rw [w64 (by omega) (by omega), tm (by omega)]; omega
  rw [lt_is hb]
  exact seen_l1 l0 l1 (a2 % 20).toNat (by omega) (by omega) (by omega) v1 l1.length 200 0 _ false (by omega) (by omega) (by simp [Disk.blank]) (by simp [Disk.blank]) (by
    rw [if_neg (by decide)]
    exact blank_at (by omega))
end Go.Proofs.Ytkokdpnnmkphmaa.Pl
