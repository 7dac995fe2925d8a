/- The plain law of SectorsBits. -/
import Derived.Test.YtkokdpnnmkphmaaDSectorsBits
import Derived.Test.YtkokdpnnmkphmaaPh04
namespace Go.Proofs.Ytkokdpnnmkphmaa.Pl
open Go Go.RowKit Sx Base Own Disk Bytes

theorem bv8 {a : Nat} (h : a < 256) : (BitVec.ofInt 8 (a : Int)).toNat = a := by rw [BitVec.toNat_ofInt]; simp; omega
theorem or8 {a b : Nat} (ha : a < 256) (hb : b < 256) : bitv .or .u8 (a : Int) (b : Int) = ((a ||| b : Nat) : Int) := by
  show IntKind.u8.wrap ((BitVec.ofInt 8 (a : Int) ||| BitVec.ofInt 8 (b : Int)).toNat : Int) = _
  rw [BitVec.toNat_or, bv8 ha, bv8 hb, IntKind.wrap_u8]
  have : a ||| b < 2 ^ 8 := Nat.or_lt_two_pow ha hb
  omega
theorem and8 {a : Nat} (ha : a < 256) : bitv .and .u8 (a : Int) 1 = ((a % 2 : Nat) : Int) := by
  show IntKind.u8.wrap ((BitVec.ofInt 8 (a : Int) &&& BitVec.ofInt 8 (1 : Int)).toNat : Int) = _
  rw [BitVec.toNat_and, bv8 ha, show (BitVec.ofInt 8 (1 : Int)).toNat = 1 from rfl, Nat.and_one_is_mod, IntKind.wrap_u8]
  omega
theorem kept_nat (a i : Nat) (hi : i < 8) : kept (a : Int) i = a.testBit i := by
  unfold kept
  rw [Nat.testBit_eq_decide_div_mod_eq, Nat.min_eq_left (by omega)]
  have : ((a : Int) / (2 : Int) ^ i) = ((a / 2 ^ i : Nat) : Int) := by
    rw [Int.natCast_ediv]; simp
  rw [this]
  by_cases h : a / 2 ^ i % 2 = 1
  · rw [dt h, dt (by omega)]
  · rw [df h, df (by omega)]
theorem bit8 {a i : Nat} (ha : a < 256) (hi : i < 8) : (bitv .and .u8 (Int.fdiv (a : Int) (2 ^ min i 8)) 1 == 1) = kept (a : Int) i := by
  have hp : (0 : Int) < 2 ^ (min i 8) := Int.pow_pos (by decide)
  rw [Int.fdiv_eq_ediv_of_nonneg _ (by omega), Nat.min_eq_left (by omega)]
  have e : ((a : Int) / (2 : Int) ^ i) = ((a / 2 ^ i : Nat) : Int) := by rw [Int.natCast_ediv]; simp
  have hlt : a / 2 ^ i < 256 := Nat.lt_of_le_of_lt (Nat.div_le_self _ _) ha
  rw [e, and8 hlt, kept_nat a i hi, Nat.testBit_eq_decide_div_mod_eq]
  by_cases h : a / 2 ^ i % 2 = 1
  · rw [dt h, h]; rfl
  · rw [df h, beq_no (by omega)]
def atB (s q i : Nat) : Nat := (i * s + q) % 8
theorem atB_inj {s q i j : Nat} (hs : s = 1 ∨ s = 3 ∨ s = 5 ∨ s = 7) (hi : i < 8) (hj : j < 8) (h : atB s q i = atB s q j) : i = j := by
  unfold atB at h
  rcases hs with rfl | rfl | rfl | rfl <;> omega
def wB (s q : Nat) (v : Nat → Int) (i : Nat) : Int × List Int := ((atB s q i : Nat), pad [v i])
theorem fail_b {s q : Nat} (hs : s = 1 ∨ s = 3 ∨ s = 5 ∨ s = 7) (v : Nat → Int) (hv : ∀ i, 0 ≤ v i ∧ v i ≤ 255) (D : Dk) (hok : D.ok) (h1 : D.sure = (Disk.blank 8).seen) (h2 : D.waits = (List.range 8).map (wB s q v)) (keep : Int) : ∀ m, m ≤ 8 →
    (failK keep (-1) D.sure D.waits m).length = 8 ∧ ∀ i, i < 8 → (failK keep (-1) D.sure D.waits m).getD (atB s q i) [] = if i < m ∧ kept keep i = true then pad [v i] else List.replicate 64 0 := by
  have hat : ∀ i, atB s q i < 8 := fun i => Nat.mod_lt _ (by decide)
  have hl8 : D.seen.length = 8 := by rw [← hok.same, h1]; exact (blank_len 8).1
  intro m
  induction m with
  | zero =>
    intro _
    refine ⟨by show D.sure.length = 8; rw [hok.same]; exact hl8, fun i hi => ?_⟩
    rw [if_neg (by omega)]
    show D.sure.getD _ [] = _
    rw [h1]; exact blank_at (hat i)
  | succ m ih =>
    intro hm
    obtain ⟨g1, g2⟩ := ih (by omega)
    have hw : D.waits[m]? = some (wB s q v m) := by rw [h2, List.getElem?_map, List.getElem?_range (by omega)]; rfl
    have e : failK keep (-1) D.sure D.waits (m + 1) = Disk.step keep (-1) (failK keep (-1) D.sure D.waits m) m (wB s q v m) := by
      show (match D.waits[m]? with | none => _ | some x => _) = _
      rw [hw]
    have hp : Disk.part (-1) m = 64 := by unfold Disk.part; rw [if_neg (by omega)]
    have hq := (failK_pc hok keep (-1) m).2
    have hpl : (pad [v m]).length = 64 := by simp [pad]
    rw [e]
    unfold Disk.step
    cases hk : kept keep m with
    | false =>
      rw [if_neg (by decide)]
      refine ⟨g1, fun i hi => ?_⟩
      rw [g2 i hi]
      by_cases him : i = m
      · subst him; rw [if_neg (by omega), if_neg (by simp [hk])]
      · by_cases hc : i < m ∧ kept keep i = true
        · rw [if_pos hc, if_pos ⟨by omega, hc.2⟩]
        · rw [if_neg hc, if_neg (fun h => hc ⟨by omega, h.2⟩)]
    | true =>
      rw [if_pos rfl]
      have hx : (wB s q v m).1.toNat = atB s q m := by simp [wB]
      have h64 : ((failK keep (-1) D.sure D.waits m).getD (atB s q m) []).length = 64 := by
        rw [List.getD_eq_getElem?_getD, List.getElem?_eq_getElem (by rw [g1]; exact hat m)]
        exact (hq _ (List.getElem_mem _)).1
      have hy : (wB s q v m).2.take (Disk.part (-1) m) ++ ((failK keep (-1) D.sure D.waits m).getD (wB s q v m).1.toNat []).drop (Disk.part (-1) m) = pad [v m] := by
        rw [hp, hx, List.drop_eq_nil_of_le (by omega), List.append_nil]
        exact List.take_of_length_le (by show (pad [v m]).length ≤ 64; omega)
      rw [hy, hx]
      refine ⟨by rw [List.length_set]; exact g1, fun i hi => ?_⟩
      rw [getD_set _ _ _ _ _ (by rw [g1]; exact hat m)]
      by_cases him : i = m
      · subst him; rw [if_pos rfl, if_pos ⟨by omega, hk⟩]
      · rw [if_neg (fun h => him (atB_inj hs hi (by omega) h.symm)), g2 i hi]
        by_cases hc : i < m ∧ kept keep i = true
        · rw [if_pos hc, if_pos ⟨by omega, hc.2⟩]
        · rw [if_neg hc, if_neg (fun h => hc ⟨by omega, h.2⟩)]
theorem bits_l2 {s q : Nat} (hs : s = 1 ∨ s = 3 ∨ s = 5 ∨ s = 7) (hq : q ≤ 63) (a1 : Int) (ha : IntKind.wrap .u8 (Int.tdiv a1 4) = (q : Int)) (l2 l0 : List Int) (k0 k1 : Nat) (hk0 : k0 < 256) (hk1 : k1 < 256) (hl2 : l2.length = 2) (h0 : l2.getD 0 0 = (k0 : Int)) (hl0 : l0.length = 8)
    (X Z Y : Dk) (n1 : X.seen.length = 8) (n2 : Z.seen.length = 8) (n3 : Y.seen.length = 8) (v : Nat → Nat) (hv : ∀ i, i < 8 → bitv .or .u8 (l0.getD i 0) 1 = (v i : Int) ∧ v i < 256)
    (gx : ∀ i, i < 8 → (X.seen.getD (atB s q i) []).getD 0 0 = if kept k0 i = true then (v i : Int) else 0) (gy : ∀ i, i < 8 → (Y.seen.getD (atB s q i) []).getD 0 0 = if kept k1 i = true then (v i : Int) else 0) (gz : ∀ i, i < 8 → (Z.seen.getD (atB s q i) []).getD 0 0 = if (kept k0 i || kept k1 i) = true then (v i : Int) else 0) :
    ∀ (d k i : Nat), i + d = 8 → d < k → SectorsBits.l2 k (s : Int) a1 l2 l0 X Z Y (i : Int) = some true := by
  intro d
  induction d with
  | zero =>
    intro k i hi hk
    obtain ⟨k, rfl⟩ : ∃ m, k = m + 1 := ⟨k - 1, by omega⟩
    rw [SectorsBits.l2, iff_ (df (by omega))]
  | succ d ih =>
    intro k i hi hk
    obtain ⟨k, rfl⟩ : ∃ m, k = m + 1 := ⟨k - 1, by omega⟩
    have hat : atB s q i < 8 := Nat.mod_lt _ (by decide)
    have his : i * s ≤ 49 := by rcases hs with rfl | rfl | rfl | rfl <;> omega
    have e1 : Int.tmod (IntKind.wrap .i64 ((IntKind.wrap .i64 ((i : Int) * (s : Int))) + (IntKind.wrap .i64 (IntKind.wrap .u8 (Int.tdiv a1 (4 : Int)))))) (8 : Int) = ((atB s q i : Nat) : Int) := by
      rw [ha, w64 (x := (q : Int)) (by omega) (by omega), show (i : Int) * (s : Int) = ((i * s : Nat) : Int) by simp, w64 (x := ((i * s : Nat) : Int)) (by omega) (by omega), w64 (by omega) (by omega), tm (by omega)]
      unfold atB; omega
    have hj : ∀ y, y = (if kept k0 i = true then (v i : Int) else 0) → SectorsBits.j1 (SectorsBits.l2 k (s : Int) a1 l2 l0 X Z Y) ((atB s q i : Nat) : Int) X Z Y i y = some true := by
      intro y hy
      have hvi := (hv i (by omega)).2
      have ez : (Z.seen.getD (atB s q i) []).getD 0 0 = bitv .or .u8 ((X.seen.getD (atB s q i) []).getD 0 0) ((Y.seen.getD (atB s q i) []).getD 0 0) := by
        rw [gz i (by omega), gx i (by omega), gy i (by omega)]
        have o1 : bitv .or .u8 (v i : Int) (v i : Int) = (v i : Int) := by rw [or8 hvi hvi, Nat.or_self]
        have o2 : bitv .or .u8 (v i : Int) 0 = (v i : Int) := by rw [show (0 : Int) = ((0 : Nat) : Int) from rfl, or8 hvi (by decide), Nat.or_zero]
        have o3 : bitv .or .u8 0 (v i : Int) = (v i : Int) := by rw [show (0 : Int) = ((0 : Nat) : Int) from rfl, or8 (by decide) hvi, Nat.zero_or]
        have o4 : bitv .or .u8 0 0 = 0 := by decide
        cases kept k0 i <;> cases kept k1 i <;> simp [o1, o2, o3, o4]
      unfold SectorsBits.j1
      rw [Int.toNat_natCast, if_pos (by omega), gx i (by omega), hy, iff_ (bne_no rfl), if_pos (by omega), if_pos (by omega), if_pos (by omega), ← gx i (by omega), iff_ (bne_no ez), w64s (by omega)]
      exact ih k (i + 1) (by omega) (by omega)
    rw [SectorsBits.l2, ift (dt (by omega)), lt_is e1, if_pos (by omega), if_pos (by omega), show Int.toNat 0 = 0 from rfl, h0, Int.toNat_natCast, bit8 hk0 (by omega)]
    by_cases hc : kept k0 i = true
    · rw [ift hc, if_pos (by omega), lt_is (hv i (by omega)).1]
      exact hj _ (by rw [if_pos hc])
    · rw [if_neg hc]
      exact hj _ (by rw [if_neg hc])
theorem bits_l1 {s q : Nat} (hs : s = 1 ∨ s = 3 ∨ s = 5 ∨ s = 7) (hq : q ≤ 63) (a1 : Int) (ha : IntKind.wrap .u8 (Int.tdiv a1 4) = (q : Int)) (l2 l0 : List Int) (hl2 : l2.length = 2) (v2 : ∀ n ∈ l2, (Lit.int .u8 n).wf = true) (hl0 : l0.length = 8) (v : Nat → Nat) (hv : ∀ i, bitv .or .u8 (l0.getD i 0) 1 = (v i : Int) ∧ v i < 256) :
    ∀ (d k n : Nat) (D : Dk), n + d = 8 → d + 10 < k → D.ok → D.seen.length = 8 → D.sure = (Disk.blank 8).seen → D.waits = (List.range n).map (wB s q fun i => (v i : Int)) → SectorsBits.l1 k l0 (s : Int) a1 l2 D (n : Int) = some true := by
  have hat : ∀ i, atB s q i < 8 := fun i => Nat.mod_lt _ (by decide)
  intro d
  induction d with
  | zero =>
    intro k n D hn hk hok h8 hsu hw
    obtain ⟨k, rfl⟩ : ∃ m, k = m + 1 := ⟨k - 1, by omega⟩
    obtain rfl : n = 8 := by omega
    have hwl : D.waits.length = 8 := by rw [hw]; simp
    have g0 := wf8 v2 (i := 0) (by omega)
    have g1 := wf8 v2 (i := 1) (by omega)
    obtain ⟨k0, e0⟩ : ∃ k0 : Nat, l2.getD 0 0 = k0 := ⟨(l2.getD 0 0).toNat, by omega⟩
    obtain ⟨k1, e1⟩ : ∃ k1 : Nat, l2.getD 1 0 = k1 := ⟨(l2.getD 1 0).toNat, by omega⟩
    have u : ∀ z : Nat, z < 256 → IntKind.wrap .u64 (z : Int) = (z : Int) := fun z hz => IntWalk.u64_in _ ⟨by omega, by omega⟩
    have hor : k0 ||| k1 < 2 ^ 8 := Nat.or_lt_two_pow (show k0 < 2 ^ 8 by omega) (show k1 < 2 ^ 8 by omega)
    rw [SectorsBits.l1, iff_ (df (by omega)), if_pos (by omega), if_pos ⟨by omega, by decide⟩, show Int.toNat 0 = 0 from rfl, show Int.toNat 1 = 1 from rfl, e0, e1, u k0 (by omega), u k1 (by omega), or8 (by omega) (by omega), u _ (by omega), lt_is rfl, if_pos (by omega), if_pos ⟨by omega, by decide⟩, lt_is rfl, if_pos (by omega), if_pos (by omega), if_pos ⟨by omega, by decide⟩, lt_is rfl]
    have hf := fun keep => fail_b hs (fun i => (v i : Int)) (fun i => by have := (hv i).2; omega) D hok hsu hw keep 8 (Nat.le_refl _)
    have hg : ∀ (keep : Int) (i : Nat), i < 8 → ((D.fail keep (-1)).seen.getD (atB s q i) []).getD 0 0 = if kept keep i = true then (v i : Int) else 0 := by
      intro keep i hi
      show ((failK keep (-1) D.sure D.waits D.waits.length).getD _ []).getD 0 0 = _
      rw [hwl, (hf keep).2 i hi]
      by_cases hc : kept keep i = true
      · rw [if_pos ⟨hi, hc⟩, if_pos hc, pad1]
      · rw [if_neg (fun h => hc h.2), if_neg hc, zeros0]
    have hlen : ∀ keep, (D.fail keep (-1)).seen.length = 8 := fun keep => by
      show (failK keep (-1) D.sure D.waits D.waits.length).length = 8
      rw [hwl]; exact (hf keep).1
    refine bits_l2 hs hq a1 ha l2 l0 k0 k1 (by omega) (by omega) hl2 e0 hl0 _ _ _ (hlen _) (hlen _) (hlen _) v (fun i _ => hv i) (hg _) (hg _) (fun i hi => ?_) 8 k 0 (by omega) (by omega)
    rw [hg _ i hi, kept_nat _ i hi, kept_nat _ i hi, kept_nat _ i hi, Nat.testBit_or]
  | succ d ih =>
    intro k n D hn hk hok h8 hsu hw
    obtain ⟨k, rfl⟩ : ∃ m, k = m + 1 := ⟨k - 1, by omega⟩
    have his : n * s ≤ 49 := by rcases hs with rfl | rfl | rfl | rfl <;> omega
    have e1 : Int.tmod (IntKind.wrap .i64 ((IntKind.wrap .i64 ((n : Int) * (s : Int))) + (IntKind.wrap .i64 (IntKind.wrap .u8 (Int.tdiv a1 (4 : Int)))))) (8 : Int) = ((atB s q n : Nat) : Int) := by
      rw [ha, w64 (x := (q : Int)) (by omega) (by omega), show (n : Int) * (s : Int) = ((n * s : Nat) : Int) by simp, w64 (x := ((n * s : Nat) : Int)) (by omega) (by omega), w64 (by omega) (by omega), tm (by omega)]
      unfold atB; omega
    have hwl : D.waits.length = n := by rw [hw]; simp
    obtain ⟨b1, b2⟩ := wr_ok (D := D) (x := ((atB s q n : Nat) : Int)) (b := [(v n : Int)]) (by omega) (by have := hat n; omega) (by simp)
    rw [SectorsBits.l1, ift (dt (by omega)), if_pos (by omega), Int.toNat_natCast, (hv n).1, if_pos ⟨by omega, by simp⟩, e1, b1, b2, lt_is rfl, iff_ (by decide), w64s (by omega)]
    have hvn := (hv n).2
    refine ih k (n + 1) _ (by omega) (by omega) (hok.write (by have := hat n; omega) (pad_pc (by simp) (by intro z hz; simp only [List.mem_cons, List.not_mem_nil, or_false] at hz; subst hz; omega))) (by rw [(write_seen D _ _).1, List.length_set]; exact h8) hsu ?_
    show D.waits ++ [(((atB s q n : Nat) : Int), pad [(v n : Int)])] = _
    rw [hw, List.range_succ, List.map_append]; rfl
theorem SectorsBits_pure (l0 : List Int) (a1 : Int) (l2 : List Int) (n0 : l0.length = 8) (v0 : ∀ n ∈ l0, (Lit.int .u8 n).wf = true) (v1 : (Lit.int .u8 a1).wf = true) (n2 : l2.length = 2) (v2 : ∀ n ∈ l2, (Lit.int .u8 n).wf = true) : ∃ k, SectorsBits.f k l0 a1 l2 = some true := by
  refine ⟨100, ?_⟩
  unfold SectorsBits.f
  have h1 := wfu8 v1
  have e : IntKind.wrap .i64 ((IntKind.wrap .i64 ((IntKind.wrap .i64 (Int.tmod a1 (4 : Int))) * (2 : Int))) + (1 : Int)) = ((a1.toNat % 4 * 2 + 1 : Nat) : Int) := by
    rw [tm (by omega), w64 (x := a1 % 4) (by omega) (by omega), w64 (x := a1 % 4 * 2) (by omega) (by omega), w64 (by omega) (by omega)]; omega
  have ha : IntKind.wrap .u8 (Int.tdiv a1 4) = ((a1.toNat / 4 : Nat) : Int) := by
    rw [Int.tdiv_eq_ediv_of_nonneg (by omega), wu8]; omega
  rw [lt_is e]
  have hv : ∀ i, bitv .or .u8 (l0.getD i 0) 1 = ((bitv .or .u8 (l0.getD i 0) 1).toNat : Int) ∧ (bitv .or .u8 (l0.getD i 0) 1).toNat < 256 := fun i => by
    have := wfu8 (wf_bitv .or .u8 (l0.getD i 0) 1)
    omega
  exact bits_l1 (by omega) (by omega) a1 ha l2 l0 n2 v2 n0 (fun i => (bitv .or .u8 (l0.getD i 0) 1).toNat) hv 8 100 0 _ (by omega) (by omega) (blank_ok 8 (by decide) (by decide)) (blank_len 8).1 rfl rfl
end Go.Proofs.Ytkokdpnnmkphmaa.Pl
