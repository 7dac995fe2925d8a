/- Plain facts on the sums: a step of the register, its linearity, its injectivity. No program here. -/
import Derived.WalkKit
namespace Go.Proofs.YticnjkdaccacaaaDoor.Crc
open Go

/-- One step of the register. -/
def stp (n : BitVec 32) : BitVec 32 := (n >>> 1) ^^^ (3988292384#32 &&& (-(n &&& 1#32)))
def stps : Nat → BitVec 32 → BitVec 32
  | 0, n => n
  | k + 1, n => stps k (stp n)
/-- A byte as a number of 32 bits. -/
def by32 (c : Int) : BitVec 32 := BitVec.ofInt 32 c
def byt (n : BitVec 32) (c : Int) : BitVec 32 := stps 8 (n ^^^ by32 c)
def raw (n : BitVec 32) (l : List Int) : BitVec 32 := l.foldl byt n
def on (s : BitVec 32) (l : List Int) : BitVec 32 := ~~~ (raw (~~~ s) l)
def num (n : BitVec 32) : Int := (n.toNat : Int)
theorem num_range (n : BitVec 32) : 0 ≤ num n ∧ num n < 4294967296 := by have := n.isLt; unfold num; omega
theorem num_inj {a b : BitVec 32} (h : num a = num b) : a = b := by
  unfold num at h; exact BitVec.eq_of_toNat_eq (by omega)
theorem of_num (n : BitVec 32) : BitVec.ofInt 32 (num n) = n := by
  unfold num; rw [BitVec.ofInt_natCast, BitVec.ofNat_toNat, BitVec.setWidth_eq]
theorem num_of {x : Int} (h0 : 0 ≤ x) (h1 : x < 4294967296) : num (BitVec.ofInt 32 x) = x := by
  unfold num; rw [BitVec.toNat_ofInt]; omega

theorem stps_succ' (k : Nat) : ∀ n, stps (k + 1) n = stp (stps k n) := by
  induction k with
  | zero => intro n; rfl
  | succ k ih => intro n; show stps (k + 1) (stp n) = _; rw [ih]; rfl
theorem stps_add (j k : Nat) : ∀ n, stps (j + k) n = stps k (stps j n) := by
  induction j with
  | zero => intro n; simp [stps]
  | succ j ih => intro n; rw [Nat.succ_add]; show stps (j + k) (stp n) = _; rw [ih]; rfl

theorem neg_and_one (n : BitVec 32) : -(n &&& 1#32) = if n.getLsbD 0 then BitVec.allOnes 32 else 0#32 := by
  by_cases h : n.getLsbD 0 = true
  · rw [if_pos h]
    have : n &&& 1#32 = 1#32 := by
      apply BitVec.eq_of_getLsbD_eq
      intro i hi
      rw [BitVec.getLsbD_and, BitVec.getLsbD_one]
      by_cases e : i = 0
      · subst e; simp [h]
      · simp [e]
    rw [this]; decide
  · rw [if_neg h]
    have : n &&& 1#32 = 0#32 := by
      apply BitVec.eq_of_getLsbD_eq
      intro i hi
      rw [BitVec.getLsbD_and, BitVec.getLsbD_one]
      by_cases e : i = 0
      · subst e; simpa using h
      · simp [e]
    rw [this]; decide
theorem stp_bit (n : BitVec 32) : stp n = (n >>> 1) ^^^ (if n.getLsbD 0 then 3988292384#32 else 0#32) := by
  unfold stp; rw [neg_and_one]; split <;> simp
theorem stp_xor (a b : BitVec 32) : stp (a ^^^ b) = stp a ^^^ stp b := by
  rw [stp_bit, stp_bit, stp_bit, BitVec.getLsbD_xor, BitVec.ushiftRight_xor_distrib]
  cases a.getLsbD 0 <;> cases b.getLsbD 0 <;> simp only [Bool.false_xor, Bool.true_xor, Bool.not_false, Bool.not_true, Bool.false_eq_true, if_true, if_false, BitVec.xor_zero]
  · ac_rfl
  · ac_rfl
  · rw [show a >>> 1 ^^^ 3988292384#32 ^^^ (b >>> 1 ^^^ 3988292384#32) = a >>> 1 ^^^ b >>> 1 ^^^ (3988292384#32 ^^^ 3988292384#32) by ac_rfl]; simp
theorem stp_zero : stp 0#32 = 0#32 := by decide
theorem stp_inj0 {n : BitVec 32} (h : stp n = 0#32) : n = 0#32 := by
  rw [stp_bit] at h
  have h31 : ((n >>> 1) ^^^ (if n.getLsbD 0 then 3988292384#32 else 0#32)).getLsbD 31 = false := by rw [h]; simp
  rw [BitVec.getLsbD_xor, BitVec.getLsbD_ushiftRight] at h31
  have hb : n.getLsbD 32 = false := BitVec.getLsbD_of_ge n 32 (by omega)
  cases h0 : n.getLsbD 0 with
  | true => rw [h0, hb] at h31; exact absurd h31 (by decide)
  | false =>
    rw [h0] at h
    simp at h
    apply BitVec.eq_of_getLsbD_eq
    intro i hi
    cases i with
    | zero => simpa using h0
    | succ i =>
      have : (n >>> 1).getLsbD i = false := by rw [h]; simp
      rw [BitVec.getLsbD_ushiftRight] at this
      rw [Nat.add_comm] at this
      simpa using this
theorem stps_xor (k : Nat) : ∀ a b, stps k (a ^^^ b) = stps k a ^^^ stps k b := by
  induction k with
  | zero => intro a b; rfl
  | succ k ih => intro a b; show stps k (stp (a ^^^ b)) = _; rw [stp_xor, ih]; rfl
theorem stps_inj0 (k : Nat) : ∀ n, stps k n = 0#32 → n = 0#32 := by
  induction k with
  | zero => intro n h; exact h
  | succ k ih => intro n h; exact stp_inj0 (ih _ h)
theorem xor_eq_zero {a b : BitVec 32} : a ^^^ b = 0#32 ↔ a = b := by
  constructor
  · intro h
    have : a ^^^ b ^^^ b = 0#32 ^^^ b := by rw [h]
    rwa [BitVec.xor_assoc, BitVec.xor_self, BitVec.xor_zero, BitVec.zero_xor] at this
  · rintro rfl; exact BitVec.xor_self
theorem stps_inj (k : Nat) {a b : BitVec 32} (h : stps k a = stps k b) : a = b := by
  have := stps_inj0 k (a ^^^ b) (by rw [stps_xor, h]; exact BitVec.xor_self)
  exact xor_eq_zero.1 this

theorem raw_append (n : BitVec 32) (a b : List Int) : raw n (a ++ b) = raw (raw n a) b := List.foldl_append
theorem on_nil (s : BitVec 32) : on s [] = s := by simp [on, raw]
theorem on_append (s : BitVec 32) (a b : List Int) : on s (a ++ b) = on (on s a) b := by
  unfold on; rw [raw_append, BitVec.not_not]
/-- The register's shift, eight at once, of the bits above the lowest byte. -/
theorem stps_shift (k : Nat) : ∀ n : BitVec 32, (∀ i, i < k → n.getLsbD i = false) → stps k n = n >>> k := by
  induction k with
  | zero => intro n _; simp [stps]
  | succ k ih =>
    intro n h
    have h1 : stp n = n >>> 1 := by rw [stp_bit, h 0 (by omega)]; simp
    show stps k (stp n) = _
    rw [h1, ih _ (fun i hi => by rw [BitVec.getLsbD_ushiftRight]; exact h _ (by omega)), ← BitVec.shiftRight_add, Nat.add_comm]
theorem split8 (n : BitVec 32) : n = (n &&& 255#32) ^^^ (n &&& ~~~ 255#32) := by
  apply BitVec.eq_of_getLsbD_eq
  intro i hi
  simp only [BitVec.getLsbD_xor, BitVec.getLsbD_and, BitVec.getLsbD_not]
  cases n.getLsbD i <;> cases (255#32).getLsbD i <;> simp [hi]
theorem low_255 (i : Nat) : (255#32).getLsbD i = decide (i < 8) := by
  by_cases h : i < 32
  · have : ∀ j : Fin 32, (255#32).getLsbD j.val = decide (j.val < 8) := by decide
    exact this ⟨i, h⟩
  · rw [BitVec.getLsbD_of_ge _ _ (by omega)]; simp; omega
/-- Eight steps by the table. -/
theorem byt_table (n : BitVec 32) : stps 8 n = (n >>> 8) ^^^ stps 8 (n &&& 255#32) := by
  have h : stps 8 n = stps 8 ((n &&& 255#32) ^^^ (n &&& ~~~ 255#32)) := by rw [← split8]
  rw [h, stps_xor, stps_shift 8 (n &&& ~~~ 255#32)]
  · rw [BitVec.xor_comm]
    congr 1
    apply BitVec.eq_of_getLsbD_eq
    intro i hi
    rw [BitVec.getLsbD_ushiftRight, BitVec.getLsbD_ushiftRight, BitVec.getLsbD_and, BitVec.getLsbD_not, low_255]
    by_cases h32 : 8 + i < 32
    · simp [h32]
    · rw [BitVec.getLsbD_of_ge n _ (by omega)]; simp
  · intro i hi
    rw [BitVec.getLsbD_and, BitVec.getLsbD_not, low_255]
    simp [hi]

/-! ### In the model's words -/
theorem w32 (x : BitVec 32) : IntKind.u32.wrap (x.toNat : Int) = num x := by
  have := x.isLt
  rw [IntKind.wrap_u32']; unfold num; omega
theorem bits_xor (a b : BitVec 32) : bits .xor .u32 (num a) (num b) = num (a ^^^ b) := by
  unfold bits; show IntKind.u32.wrap ((BitVec.ofInt 32 (num a) ^^^ BitVec.ofInt 32 (num b)).toNat : Int) = _
  rw [of_num, of_num, w32]
theorem bits_and (a b : BitVec 32) : bits .and .u32 (num a) (num b) = num (a &&& b) := by
  unfold bits; show IntKind.u32.wrap ((BitVec.ofInt 32 (num a) &&& BitVec.ofInt 32 (num b)).toNat : Int) = _
  rw [of_num, of_num, w32]
theorem num_neg (a : BitVec 32) : (-(num a)) % 4294967296 = num (-a) := by
  have := a.isLt
  unfold num; rw [BitVec.toNat_neg]; omega
theorem num_shr1 (a : BitVec 32) : num a / (2 : Int) = num (a >>> 1) := by
  unfold num; rw [BitVec.toNat_ushiftRight, Nat.shiftRight_eq_div_pow]; omega
theorem num_shr8 (a : BitVec 32) : num a / (256 : Int) = num (a >>> 8) := by
  unfold num; rw [BitVec.toNat_ushiftRight, Nat.shiftRight_eq_div_pow]; omega
theorem one_num : (1 : Int) = num 1#32 := by decide
theorem poly_num : (3988292384 : Int) = num 3988292384#32 := by decide
theorem all_num : (4294967295 : Int) = num (BitVec.allOnes 32) := by decide
/-- The closure's step as the walk spells it. -/
theorem stp_walk (a : BitVec 32) : bits .xor .u32 (num a / (2 : Int)) (bits .and .u32 3988292384 (-bits .and .u32 (num a) 1 % 4294967296)) = num (stp a) := by
  rw [poly_num, one_num, bits_and, num_neg, bits_and, num_shr1, bits_xor]; rfl
theorem bits_not (x : BitVec 32) : bits .xor .u32 IntKind.u32.max (num x) = num (~~~ x) := by
  have h : bits .xor .u32 4294967295 (num x) = num (~~~ x) := by
    rw [all_num, bits_xor, BitVec.allOnes_xor]
  rw [← h]; rfl
def ix (x : BitVec 32) (y : Int) : BitVec 32 := (x ^^^ by32 y) &&& 255#32
theorem ix_range (x : BitVec 32) (y : Int) : 0 ≤ num (ix x y) ∧ num (ix x y) < 256 := by
  have h : (ix x y).toNat ≤ 255 := by unfold ix; rw [BitVec.toNat_and]; exact Nat.and_le_right
  unfold num; omega
theorem by32_toNat {y : Int} (h0 : 0 ≤ y) (h1 : y < 256) : (by32 y).toNat = y.toNat := by
  unfold by32; rw [BitVec.toNat_ofInt]; omega
theorem bits_ix (x : BitVec 32) (y : Int) (h0 : 0 ≤ y) (h1 : y < 256) : bits .xor .u8 (num x % 256) y = num (ix x y) := by
  obtain ⟨n, rfl⟩ := Int.eq_ofNat_of_zero_le h0
  have e : num x % 256 = ((x.toNat % 256 : Nat) : Int) := by unfold num; omega
  rw [e, u8_xor_nat _ _ (Nat.mod_lt _ (by omega)) (by omega)]
  unfold num ix
  rw [BitVec.toNat_and, BitVec.toNat_xor, by32_toNat h0 h1]
  have h8 : ∀ a : Nat, a &&& 255 = a % 256 := nat_mask8
  show _ = (((x.toNat ^^^ n) &&& 255 : Nat) : Int)
  rw [h8]
  congr 1
  rw [show (256 : Nat) = 2 ^ 8 from rfl, Nat.xor_mod_two_pow, Nat.mod_eq_of_lt (a := n) (by omega)]
theorem byt_walk (x : BitVec 32) (y : Int) (h0 : 0 ≤ y) (h1 : y < 256) : bits .xor .u32 (num x / (256 : Int)) (num (stps 8 (ix x y))) = num (byt x y) := by
  rw [num_shr8, bits_xor]
  unfold byt ix
  rw [byt_table (x ^^^ by32 y), BitVec.ushiftRight_xor_distrib]
  have : by32 y >>> 8 = 0#32 := by
    apply BitVec.eq_of_toNat_eq
    rw [BitVec.toNat_ushiftRight, by32_toNat h0 h1, Nat.shiftRight_eq_div_pow]
    show y.toNat / 256 = 0
    omega
  rw [this, BitVec.xor_zero]
end Go.Proofs.YticnjkdaccacaaaDoor.Crc
