/- More plain facts on the sums: four bytes as a number, a bit that is turned, three lists. No program here. -/
import Derived.Test.YticnjkdaccacaaaDoorCrc
namespace Go.Proofs.YticnjkdaccacaaaDoor.Crc
open Go
def Bt (l : List Int) : Prop := ∀ x ∈ l, 0 ≤ x ∧ x < 256
def le : List Int → BitVec 32
  | [] => 0#32
  | y :: l => by32 y ^^^ (le l <<< 8)
theorem shl_toNat (x : BitVec 32) (h : x.toNat < 2 ^ 24) : (x <<< 8).toNat = x.toNat * 256 := by
  rw [BitVec.toNat_shiftLeft, Nat.shiftLeft_eq]
  omega
theorem shl_shr (x : BitVec 32) (h : x.toNat < 2 ^ 24) : (x <<< 8) >>> 8 = x := by
  apply BitVec.eq_of_toNat_eq
  rw [BitVec.toNat_ushiftRight, shl_toNat x h, Nat.shiftRight_eq_div_pow]
  omega
theorem shl_low (x : BitVec 32) (i : Nat) (h : i < 8) : (x <<< 8).getLsbD i = false := by
  rw [BitVec.getLsbD_shiftLeft]; simp [h]
theorem le_lt : ∀ (l : List Int), Bt l → l.length ≤ 4 → (le l).toNat < 2 ^ (8 * l.length) := by
  intro l
  induction l with
  | nil => intro _ _; simp [le]
  | cons y l ih =>
    intro hb hl
    simp only [List.length_cons] at hl ⊢
    have h1 := ih (fun x hx => hb x (List.mem_cons_of_mem _ hx)) (by omega)
    have hy := hb y (List.mem_cons_self)
    have h2 : (le l).toNat < 2 ^ 24 := Nat.lt_of_lt_of_le h1 (Nat.pow_le_pow_right (by omega) (by omega))
    unfold le
    rw [BitVec.toNat_xor, shl_toNat _ h2, by32_toNat hy.1 hy.2]
    refine Nat.xor_lt_two_pow ?_ ?_
    · refine Nat.lt_of_lt_of_le (m := 2 ^ 8) (by omega) (Nat.pow_le_pow_right (by omega) (by omega))
    · have h3 : 2 ^ (8 * (l.length + 1)) = 2 ^ (8 * l.length) * 256 := by rw [Nat.mul_add, Nat.pow_add]
      rw [h3]; omega
theorem stps8_shl (x : BitVec 32) (h : x.toNat < 2 ^ 24) : stps 8 (x <<< 8) = x := by
  rw [stps_shift 8 _ (fun i hi => shl_low x i hi), shl_shr x h]
theorem raw_le : ∀ (l : List Int), Bt l → l.length ≤ 4 → ∀ s, raw s l = stps (8 * l.length) (s ^^^ le l) := by
  intro l
  induction l with
  | nil => intro _ _ s; simp [raw, le, stps]
  | cons y l ih =>
    intro hb hl s
    simp only [List.length_cons] at hl
    have hb' : Bt l := fun x hx => hb x (List.mem_cons_of_mem _ hx)
    have h1 := le_lt l hb' (by omega)
    have h2 : (le l).toNat < 2 ^ 24 := Nat.lt_of_lt_of_le h1 (Nat.pow_le_pow_right (by omega) (by omega))
    show raw (byt s y) l = _
    rw [ih hb' (by omega), List.length_cons, show 8 * (l.length + 1) = 8 + 8 * l.length by omega, stps_add]
    congr 1
    have hle : le (y :: l) = by32 y ^^^ (le l <<< 8) := rfl
    rw [hle]
    unfold byt
    rw [show s ^^^ (by32 y ^^^ le l <<< 8) = (s ^^^ by32 y) ^^^ (le l <<< 8) by rw [BitVec.xor_assoc], stps_xor 8 (s ^^^ by32 y), stps8_shl _ h2]
theorem le_inj : ∀ (l m : List Int), Bt l → Bt m → l.length = m.length → l.length ≤ 4 → le l = le m → l = m := by
  intro l
  induction l with
  | nil => intro m _ _ h _ _; exact (List.eq_nil_of_length_eq_zero h.symm).symm
  | cons y l ih =>
    intro m hl hm h h4 e
    cases m with
    | nil => simp at h
    | cons z m =>
      simp only [List.length_cons] at h h4
      have bl : Bt l := fun x hx => hl x (List.mem_cons_of_mem _ hx)
      have bm : Bt m := fun x hx => hm x (List.mem_cons_of_mem _ hx)
      have hy := hl y (List.mem_cons_self)
      have hz := hm z (List.mem_cons_self)
      have l3 : (le l).toNat < 2 ^ 24 := Nat.lt_of_lt_of_le (le_lt l bl (by omega)) (Nat.pow_le_pow_right (by omega) (by omega))
      have m3 : (le m).toNat < 2 ^ 24 := Nat.lt_of_lt_of_le (le_lt m bm (by omega)) (Nat.pow_le_pow_right (by omega) (by omega))
      unfold le at e
      have hz8 : ∀ (x : BitVec 32) (y : Int), 0 ≤ y → y < 256 → x.toNat < 2 ^ 24 → (by32 y ^^^ x <<< 8) >>> 8 = x := by
        intro x y h0 h1 h2
        rw [BitVec.ushiftRight_xor_distrib, shl_shr x h2]
        have : by32 y >>> 8 = 0#32 := by
          apply BitVec.eq_of_toNat_eq
          rw [BitVec.toNat_ushiftRight, by32_toNat h0 h1, Nat.shiftRight_eq_div_pow]
          show y.toNat / 256 = 0
          omega
        rw [this, BitVec.zero_xor]
      have e2 : le l = le m := by
        have := congrArg (fun x : BitVec 32 => x >>> 8) e
        rwa [hz8 _ _ hy.1 hy.2 l3, hz8 _ _ hz.1 hz.2 m3] at this
      have e1 : by32 y = by32 z := by rw [e2] at e; exact (BitVec.xor_left_inj _).1 e
      have e3 : y = z := by
        have := congrArg BitVec.toNat e1
        rw [by32_toNat hy.1 hy.2, by32_toNat hz.1 hz.2] at this
        omega
      rw [e3, ih m bl bm (by omega) (by omega) e2]
/-- SumsFour. -/
theorem on_four (s : BitVec 32) (l m : List Int) (hl : Bt l) (hm : Bt m) (h : l.length = m.length) (h4 : l.length ≤ 4) : (num (on s l) == num (on s m)) = decide (l = m) := by
  rw [Bool.eq_iff_iff, beq_iff_eq, decide_eq_true_iff]
  constructor
  · intro e
    have e := num_inj e
    have h2 := congrArg (fun x : BitVec 32 => ~~~ x) e
    simp only [on, BitVec.not_not] at h2
    rw [raw_le l hl h4, raw_le m hm (by omega), h] at h2
    have h3 := stps_inj _ h2
    rw [BitVec.xor_right_inj] at h3
    exact le_inj l m hl hm h h4 h3
  · rintro rfl; rfl
/-- The bytes of a number, the lowest first. -/
theorem by32_mod (n : BitVec 32) : by32 (num n % 256) = n &&& 255#32 := by
  apply BitVec.eq_of_toNat_eq
  have h8 : ∀ a : Nat, a &&& 255 = a % 256 := nat_mask8
  have e : num n % 256 = ((n.toNat % 256 : Nat) : Int) := by unfold num; omega
  rw [e, by32_toNat (by omega) (by have := Nat.mod_lt n.toNat (show 0 < 256 by omega); omega), BitVec.toNat_and]
  show _ = n.toNat &&& 255
  rw [h8]; omega
theorem split_shl (n : BitVec 32) : (n &&& 255#32) ^^^ ((n >>> 8) <<< 8) = n := by
  apply BitVec.eq_of_getLsbD_eq
  intro i hi
  rw [BitVec.getLsbD_xor, BitVec.getLsbD_and, low_255, BitVec.getLsbD_shiftLeft, BitVec.getLsbD_ushiftRight]
  by_cases h : i < 8
  · simp [h]
  · simp [h, hi, show 8 + (i - 8) = i by omega]
theorem num_shr (a : BitVec 32) (k : Nat) : num a / ((2 ^ k : Nat) : Int) = num (a >>> k) := by
  unfold num; rw [BitVec.toNat_ushiftRight, Nat.shiftRight_eq_div_pow]; rfl
theorem le_bytes (n : BitVec 32) : le [num n % 256, num n / 256 % 256, num n / 65536 % 256, num n / 16777216 % 256] = n := by
  have e1 : num n / (256 : Int) = num (n >>> 8) := num_shr n 8
  have e2 : num n / (65536 : Int) = num (n >>> 16) := num_shr n 16
  have e3 : num n / (16777216 : Int) = num (n >>> 24) := num_shr n 24
  simp only [le]
  rw [e1, e2, e3, by32_mod, by32_mod, by32_mod, by32_mod]
  have s1 : n >>> 16 = (n >>> 8) >>> 8 := by rw [← BitVec.shiftRight_add]
  have s2 : n >>> 24 = (n >>> 16) >>> 8 := by rw [← BitVec.shiftRight_add]
  have t : (n >>> 24) &&& 255#32 = n >>> 24 := by
    apply BitVec.eq_of_getLsbD_eq
    intro i hi
    rw [BitVec.getLsbD_and, low_255, BitVec.getLsbD_ushiftRight]
    by_cases h : i < 8
    · simp [h]
    · rw [BitVec.getLsbD_of_ge n _ (by omega)]; simp
  rw [t]
  simp only [BitVec.zero_shiftLeft, BitVec.xor_zero]
  rw [s2, split_shl, s1, split_shl, split_shl]
/-- SumsSealed. -/
theorem on_sealed (b : List Int) : num (on 0#32 (b ++ [num (on 0#32 b) % 256, num (on 0#32 b) / 256 % 256, num (on 0#32 b) / 65536 % 256, num (on 0#32 b) / 16777216 % 256])) = 558161692 := by
  have hr := num_range (on 0#32 b)
  rw [on_append]
  generalize on 0#32 b = n at hr ⊢
  have hb : Bt [num n % 256, num n / 256 % 256, num n / 65536 % 256, num n / 16777216 % 256] := by
    intro x hx
    simp only [List.mem_cons, List.not_mem_nil, or_false] at hx
    rcases hx with rfl | rfl | rfl | rfl <;> omega
  unfold on
  rw [raw_le _ hb (by simp), le_bytes]
  have : ~~~ n ^^^ n = BitVec.allOnes 32 := by
    apply BitVec.eq_of_getLsbD_eq
    intro i hi
    rw [BitVec.getLsbD_xor, BitVec.getLsbD_not, BitVec.getLsbD_allOnes]
    cases n.getLsbD i <;> simp [hi]
  rw [this]
  simp only [List.length_cons, List.length_nil]
  decide +kernel
/-! ### A bit that is turned -/
theorem raw_lin (l : List Int) : ∀ a d, raw (a ^^^ d) l = raw a l ^^^ stps (8 * l.length) d := by
  induction l with
  | nil => intro a d; rfl
  | cons y l ih =>
    intro a d
    show raw (byt (a ^^^ d) y) l = raw (byt a y) l ^^^ _
    have : byt (a ^^^ d) y = byt a y ^^^ stps 8 d := by
      unfold byt
      rw [show a ^^^ d ^^^ by32 y = (a ^^^ by32 y) ^^^ d by ac_rfl, stps_xor]
    rw [this, ih, List.length_cons, show 8 * (l.length + 1) = 8 + 8 * l.length by omega, stps_add]
theorem stps_zero (k : Nat) : stps k 0#32 = 0#32 := by
  induction k with
  | zero => rfl
  | succ k ih => show stps k (stp 0#32) = _; rw [stp_zero, ih]
theorem one_shl (k : Nat) (h : k < 32) : stps k (1#32 <<< k) = 1#32 := by
  rw [stps_shift k]
  · apply BitVec.eq_of_getLsbD_eq
    intro i hi
    rw [BitVec.getLsbD_ushiftRight, BitVec.getLsbD_shiftLeft, BitVec.getLsbD_one, BitVec.getLsbD_one]
    by_cases e : i = 0
    · subst e; simp [h]
    · simp [e]
  · intro i hi
    rw [BitVec.getLsbD_shiftLeft]; simp [hi]
theorem stps_one (M k : Nat) (h : k < 32) (hM : k ≤ M) : stps M (1#32 <<< k) = stps (M - k) 1#32 := by
  rw [show M = k + (M - k) by omega, stps_add, one_shl k h, show k + (M - k) - k = M - k by omega]
theorem by32_xor {x y : Int} (h0 : 0 ≤ x) (h1 : x < 256) (h2 : 0 ≤ y) (h3 : y < 256) : by32 (bits .xor .u8 x y) = by32 x ^^^ by32 y := by
  apply BitVec.eq_of_toNat_eq
  rw [u8_xor x y h0 h1 h2 h3, BitVec.toNat_xor, by32_toNat h0 h1, by32_toNat h2 h3]
  have : x.toNat ^^^ y.toNat < 2 ^ 8 := Nat.xor_lt_two_pow (by omega) (by omega)
  rw [by32_toNat (by omega) (by omega)]; omega
theorem by32_pow (t : Nat) (h : t < 8) : by32 ((2 ^ t : Nat) : Int) = 1#32 <<< t := by
  have : ∀ t : Fin 8, by32 ((2 ^ t.val : Nat) : Int) = 1#32 <<< t.val := by decide
  exact this ⟨t, h⟩
theorem raw_turn (t : Nat) (ht : t < 8) : ∀ (l : List Int) (j : Nat) (n : BitVec 32), Bt l → j < l.length →
    raw n (l.set j (bits .xor .u8 (l.getD j 0) ((2 ^ t : Nat) : Int))) = raw n l ^^^ stps (8 * (l.length - j) - t) 1#32 := by
  intro l
  induction l with
  | nil => intro j n _ h; simp at h
  | cons y l ih =>
    intro j n hb hj
    have hy := hb y (List.mem_cons_self)
    have hb' : Bt l := fun x hx => hb x (List.mem_cons_of_mem _ hx)
    cases j with
    | zero =>
      have hp : (2 ^ t : Nat) < 256 := by
        have := Nat.pow_lt_pow_right (a := 2) (by omega) ht
        simpa using this
      have hp0 : (0 : Int) ≤ ((2 ^ t : Nat) : Int) := Int.natCast_nonneg _
      have hp1 : ((2 ^ t : Nat) : Int) < 256 := Int.ofNat_lt.2 hp
      show raw (byt n (bits .xor .u8 y ((2 ^ t : Nat) : Int))) l = raw (byt n y) l ^^^ _
      have : byt n (bits .xor .u8 y ((2 ^ t : Nat) : Int)) = byt n y ^^^ stps (8 - t) 1#32 := by
        unfold byt
        rw [by32_xor hy.1 hy.2 hp0 hp1, by32_pow t ht, ← BitVec.xor_assoc, stps_xor, stps_one 8 t (by omega) (by omega)]
      rw [this, raw_lin, ← stps_add, List.length_cons]
      congr 2
      omega
    | succ j =>
      simp only [List.length_cons] at hj
      show raw (byt n y) (l.set j (bits .xor .u8 (l.getD j 0) ((2 ^ t : Nat) : Int))) = raw (byt n y) l ^^^ _
      rw [ih j _ hb' (by omega), List.length_cons]
      congr 3
      omega
theorem bit_walk (S : BitVec 32) (k : Nat) : (bits .and .u32 (num S / 2 ^ k) 1 == 1) = S.getLsbD k := by
  have e : num S / (2 : Int) ^ k = num (S >>> k) := by
    rw [← num_shr S k]; congr 1
  rw [e, one_num, bits_and]
  have h : ∀ c : Bool, ((S >>> k) &&& 1#32) = (if c then 1#32 else 0#32) → (num ((S >>> k) &&& 1#32) == num 1#32) = c := by
    intro c hc
    rw [hc]
    cases c <;> decide
  refine h _ ?_
  apply BitVec.eq_of_getLsbD_eq
  intro i hi
  rw [BitVec.getLsbD_and, BitVec.getLsbD_one, BitVec.getLsbD_ushiftRight]
  by_cases e : i = 0
  · subst e
    cases hs : S.getLsbD k <;> simp [hs]
  · cases hs : S.getLsbD k <;> simp [e]
/-- The lowest bits. -/
def low (b : BitVec 32) (k : Nat) : BitVec 32 := b &&& (BitVec.ofNat 32 (2 ^ k - 1))
theorem mask_bit (k i : Nat) (hi : i < 32) : (BitVec.ofNat 32 (2 ^ k - 1)).getLsbD i = decide (i < k) := by
  rw [BitVec.getLsbD_ofNat]
  simp [hi, Nat.testBit_two_pow_sub_one]
theorem low_zero (b : BitVec 32) : low b 0 = 0#32 := by unfold low; simp
theorem low_succ (b : BitVec 32) (k : Nat) (hk : k < 32) : low b (k + 1) = low b k ^^^ (if b.getLsbD k then 1#32 <<< k else 0#32) := by
  apply BitVec.eq_of_getLsbD_eq
  intro i hi
  unfold low
  rw [BitVec.getLsbD_and, mask_bit _ _ hi, BitVec.getLsbD_xor, BitVec.getLsbD_and, mask_bit _ _ hi]
  by_cases e : i = k
  · subst e
    cases hb : b.getLsbD i with
    | true => simp [BitVec.getLsbD_shiftLeft, hi]
    | false => simp
  · have h1 : decide (i < k + 1) = decide (i < k) := by
      by_cases h : i < k
      · simp [h, show i < k + 1 by omega]
      · simp [h, show ¬ i < k + 1 by omega]
    rw [h1]
    cases hb : b.getLsbD k with
    | true =>
      have : (1#32 <<< k).getLsbD i = false := by
        rw [BitVec.getLsbD_shiftLeft, BitVec.getLsbD_one]
        by_cases h : i < k
        · simp [h]
        · simp [show i - k ≠ 0 by omega]
      simp [this]
    | false => simp
theorem low_ne (b : BitVec 32) (k : Nat) (hk : 0 < k) (hb : b.getLsbD 0 = true) : low b k ≠ 0#32 := by
  intro h
  have : (low b k).getLsbD 0 = false := by rw [h]; simp
  unfold low at this
  rw [BitVec.getLsbD_and, mask_bit _ _ (by omega), hb] at this
  simp at this
  omega
theorem pow_mod (t : Nat) (h : t < 8) : (2 : Int) ^ t % 256 = ((2 ^ t : Nat) : Int) := by
  have : ∀ t : Fin 8, (2 : Int) ^ t.val % 256 = ((2 ^ t.val : Nat) : Int) := by decide
  exact this ⟨t, h⟩
theorem turn_step (b l : List Int) (S : BitVec 32) (L F k : Nat) (hl : l.length = L) (hb : Bt l) (hk : k < 32) (hF : F + k < 8 * L) (hS : S.getLsbD k = true) (h : raw (~~~ 0#32) l = raw (~~~ 0#32) b ^^^ stps (8 * L - F) (low S k)) :
    raw (~~~ 0#32) (l.set ((F + k) / 8) (bits .xor .u8 (l.getD ((F + k) / 8) 0) ((2 : Int) ^ ((F + k) % 8) % 256))) = raw (~~~ 0#32) b ^^^ stps (8 * L - F) (low S (k + 1)) := by
  rw [pow_mod _ (Nat.mod_lt _ (by omega)), raw_turn _ (Nat.mod_lt _ (by omega)) l _ _ hb (by omega), h, low_succ S k hk, hS, if_pos rfl, stps_xor, stps_one _ k hk (by omega), BitVec.xor_assoc]
  congr 3
  omega
theorem turn_skip (b l : List Int) (S : BitVec 32) (M k : Nat) (hk : k < 32) (hS : S.getLsbD k = false) (h : raw (~~~ 0#32) l = raw (~~~ 0#32) b ^^^ stps M (low S k)) : raw (~~~ 0#32) l = raw (~~~ 0#32) b ^^^ stps M (low S (k + 1)) := by
  rw [h, low_succ S k hk, hS]; simp
theorem turn_end (b l : List Int) (S : BitVec 32) (M k : Nat) (hk : 0 < k) (hS : S.getLsbD 0 = true) (h : raw (~~~ 0#32) l = raw (~~~ 0#32) b ^^^ stps M (low S k)) : (num (on 0#32 l) != num (on 0#32 b)) = true := by
  rw [bne_iff_ne]
  intro e
  have e := num_inj e
  have h2 := congrArg (fun x : BitVec 32 => ~~~ x) e
  simp only [on, BitVec.not_not] at h2
  rw [h] at h2
  have h3 : stps M (low S k) = 0#32 := by
    have := congrArg (fun x => raw (~~~ 0#32) b ^^^ x) h2
    simp only [← BitVec.xor_assoc, BitVec.xor_self, BitVec.zero_xor] at this
    exact this
  exact low_ne S k hk hS (stps_inj0 M _ h3)
theorem bt_set {l : List Int} (h : Bt l) {j : Nat} {t : Nat} (hj : j < l.length) (ht : t < 8) : Bt (l.set j (bits .xor .u8 (l.getD j 0) ((2 : Int) ^ t % 256))) := by
  intro x hx
  rcases List.mem_or_eq_of_mem_set hx with h1 | rfl
  · exact h x h1
  · have h2 : 0 ≤ l.getD j 0 ∧ l.getD j 0 < 256 := by
      rw [List.getD_eq_getElem?_getD, List.getElem?_eq_getElem hj]; exact h _ (List.getElem_mem hj)
    have hp : (2 ^ t : Nat) < 256 := by
      have := Nat.pow_lt_pow_right (a := 2) (by omega) ht
      simpa using this
    rw [pow_mod t ht, u8_xor _ _ h2.1 h2.2 (Int.natCast_nonneg _) (Int.ofNat_lt.2 hp)]
    have h3 : ((l.getD j 0).toNat ^^^ ((2 ^ t : Nat) : Int).toNat) < 2 ^ 8 := Nat.xor_lt_two_pow (by omega) (by rw [Int.toNat_natCast]; exact hp)
    omega
theorem sub_walk (x : BitVec 32) : (4294967295 - num x) % 4294967296 = num (~~~ x) := by
  have := x.isLt
  unfold num; rw [BitVec.toNat_not]; omega
theorem sub_walk' (x : BitVec 32) : 4294967295 - num x = num (~~~ x) := by
  have := x.isLt
  unfold num; rw [BitVec.toNat_not]; omega
theorem mod_walk (x : BitVec 32) : num x % 4294967296 = num x := by
  have := num_range x
  omega
theorem odd_walk (x : BitVec 32) : (num x % 2 == 1) = x.getLsbD 0 := by
  have h := bit_walk x 0
  rw [Int.pow_zero, Int.ediv_one] at h
  rw [← h]
  congr 1
  obtain ⟨a0, a1⟩ := num_range x
  have h1 : num x = ((num x).toNat : Int) := by omega
  rw [h1, show (1 : Int) = ((1 : Nat) : Int) from rfl, u32_and_nat _ _ (by omega) (by omega), nat_mask1]
  omega
theorem half_odd (x : BitVec 32) (h : x.getLsbD 0 = true) : bits .xor .u32 (num x / (2 : Int)) 3988292384 = num (stp x) := by
  rw [num_shr1, poly_num, bits_xor, stp_bit, if_pos h]
theorem half_even (x : BitVec 32) (h : x.getLsbD 0 = false) : num x / (2 : Int) = num (stp x) := by
  rw [num_shr1, stp_bit, h]; simp
theorem tdiv_num (x : BitVec 32) : Int.tdiv (num x) 2 % 4294967296 = num x / 2 := by
  obtain ⟨a0, a1⟩ := num_range x
  rw [Int.tdiv_eq_ediv_of_nonneg a0]; omega
theorem odd_walk_t (x : BitVec 32) : (Int.tmod (num x) 2 == 1) = x.getLsbD 0 := by
  obtain ⟨a0, a1⟩ := num_range x
  rw [Int.tmod_eq_emod_of_nonneg a0, odd_walk]
theorem half_odd_t (x : BitVec 32) (h : x.getLsbD 0 = true) : bits .xor .u32 (Int.tdiv (num x) 2 % 4294967296) 3988292384 = num (stp x) := by
  rw [tdiv_num, half_odd x h]
theorem half_even_t (x : BitVec 32) (h : x.getLsbD 0 = false) : Int.tdiv (num x) 2 % 4294967296 = num (stp x) := by
  rw [tdiv_num, half_even x h]
theorem xor_walk (x : BitVec 32) (y : Int) (h0 : 0 ≤ y) (h1 : y < 256) : bits .xor .u32 (num x) y = num (x ^^^ by32 y) := by
  have : y = num (by32 y) := by unfold num; rw [by32_toNat h0 h1]; omega
  rw [this, bits_xor]; congr 2; unfold by32 num; rw [BitVec.ofInt_natCast, BitVec.ofNat_toNat, BitVec.setWidth_eq]
/-! ### Three lists -/
def xor8 (x y : Int) : Int := bits .xor .u8 x y
theorem raw_xor2 : ∀ (a b : List Int), a.length = b.length → Bt a → Bt b → ∀ m n, raw (m ^^^ n) (List.zipWith xor8 a b) = raw m a ^^^ raw n b := by
  intro a
  induction a with
  | nil => intro b h _ _ m n; obtain rfl := List.eq_nil_of_length_eq_zero h.symm; rfl
  | cons x a ih =>
    intro b h ha hb m n
    cases b with
    | nil => simp at h
    | cons y b =>
      have hx := ha x (List.mem_cons_self)
      have hy := hb y (List.mem_cons_self)
      show raw (byt (m ^^^ n) (xor8 x y)) (List.zipWith xor8 a b) = raw (byt m x) a ^^^ raw (byt n y) b
      rw [← ih b (by simpa using h) (fun z hz => ha z (List.mem_cons_of_mem _ hz)) (fun z hz => hb z (List.mem_cons_of_mem _ hz))]
      congr 1
      unfold byt xor8
      rw [by32_xor hx.1 hx.2 hy.1 hy.2, ← stps_xor]
      congr 1
      ac_rfl
theorem xor8_range {x y : Int} (h0 : 0 ≤ x) (h1 : x < 256) (h2 : 0 ≤ y) (h3 : y < 256) : 0 ≤ xor8 x y ∧ xor8 x y < 256 := by
  unfold xor8
  rw [u8_xor x y h0 h1 h2 h3]
  have : x.toNat ^^^ y.toNat < 2 ^ 8 := Nat.xor_lt_two_pow (by omega) (by omega)
  omega
theorem xor8_bt : ∀ (a b : List Int), Bt a → Bt b → Bt (List.zipWith xor8 a b) := by
  intro a
  induction a with
  | nil => intro b _ _ x hx; simp at hx
  | cons x a ih =>
    intro b ha hb z hz
    cases b with
    | nil => simp at hz
    | cons y b =>
      simp only [List.zipWith_cons_cons, List.mem_cons] at hz
      rcases hz with rfl | hz
      · exact xor8_range (ha x (List.mem_cons_self)).1 (ha x (List.mem_cons_self)).2 (hb y (List.mem_cons_self)).1 (hb y (List.mem_cons_self)).2
      · exact ih b (fun z hz => ha z (List.mem_cons_of_mem _ hz)) (fun z hz => hb z (List.mem_cons_of_mem _ hz)) z hz
theorem on_three (a b c : List Int) (h1 : a.length = b.length) (h2 : a.length = c.length) (ha : Bt a) (hb : Bt b) (hc : Bt c) :
    on 0#32 a ^^^ on 0#32 b ^^^ on 0#32 c = on 0#32 (List.zipWith xor8 (List.zipWith xor8 a b) c) := by
  unfold on
  have e : raw (~~~ 0#32) (List.zipWith xor8 (List.zipWith xor8 a b) c) = raw (~~~ 0#32) a ^^^ raw (~~~ 0#32) b ^^^ raw (~~~ 0#32) c := by
    have h3 : ~~~ (0#32) = 0#32 ^^^ (~~~ 0#32) := by decide
    have h4 : (0#32) = (~~~ 0#32) ^^^ (~~~ 0#32) := by decide
    rw [show raw (~~~ 0#32) (List.zipWith xor8 (List.zipWith xor8 a b) c) = raw (0#32 ^^^ (~~~ 0#32)) (List.zipWith xor8 (List.zipWith xor8 a b) c) by rw [← h3], raw_xor2 _ c (by simp; omega) (xor8_bt a b ha hb) hc]
    rw [show raw 0#32 (List.zipWith xor8 a b) = raw ((~~~ 0#32) ^^^ (~~~ 0#32)) (List.zipWith xor8 a b) by rw [← h4], raw_xor2 a b h1 ha hb]
  rw [e]
  generalize raw (~~~ 0#32) a = x
  generalize raw (~~~ 0#32) b = y
  generalize raw (~~~ 0#32) c = z
  apply BitVec.eq_of_getLsbD_eq
  intro i hi
  simp only [BitVec.getLsbD_xor, BitVec.getLsbD_not, hi, decide_true, Bool.true_and]
  cases x.getLsbD i <;> cases y.getLsbD i <;> cases z.getLsbD i <;> rfl
theorem on_inj (s o : BitVec 32) (l : List Int) : (num (on s l) == num (on o l)) = (num s == num o) := by
  rw [Bool.eq_iff_iff, beq_iff_eq, beq_iff_eq]
  constructor
  · intro e
    have e := num_inj e
    have h2 := congrArg (fun x : BitVec 32 => ~~~ x) e
    simp only [on, BitVec.not_not] at h2
    have h3 := raw_lin l (~~~ s) (~~~ s ^^^ ~~~ o)
    rw [show ~~~ s ^^^ (~~~ s ^^^ ~~~ o) = ~~~ o by rw [← BitVec.xor_assoc, BitVec.xor_self, BitVec.zero_xor], ← h2] at h3
    have h4 : stps (8 * l.length) (~~~ s ^^^ ~~~ o) = 0#32 := by
      have := congrArg (fun x => raw (~~~ s) l ^^^ x) h3
      simp only [← BitVec.xor_assoc, BitVec.xor_self, BitVec.zero_xor] at this
      exact this.symm
    have h5 := xor_eq_zero.1 (stps_inj0 _ _ h4)
    have h6 := congrArg (fun x : BitVec 32 => ~~~ x) h5
    simp only [BitVec.not_not] at h6
    rw [h6]
  · intro e; rw [num_inj e]
end Go.Proofs.YticnjkdaccacaaaDoor.Crc
