/- Texts of this work, one behind the other. -/
import Derived.WalkKit
import Derived.OrdersHeld
import Derived.Below
import Derived.Deep.OwnRows
import Derived.Maps.AppendAt
import Derived.Laws.CopyOwn
import Derived.Test.YticnjkdaccacaaaGreatDoorProg
import Derived.ProofKit
import Derived.OpenShut
import Derived.KernelRfl
import Derived.Lib.Hide
import Derived.Deep.LoopGhost
import Derived.Laws.Tables
import Derived.Deep.QuietTactic
import Derived.BigQuiet
section
namespace Go.Proofs.YticnjkdaccacaaaGreatDoor.Crc
open Go
def stp (n : BitVec 32) : BitVec 32 := (n >>> 1) ^^^ (3988292384#32 &&& (-(n &&& 1#32)))
def stps : Nat → BitVec 32 → BitVec 32
  | 0, n => n
  | k + 1, n => stps k (stp n)
def by32 (c : Int) : BitVec 32 := BitVec.ofInt 32 c
def byt (n : BitVec 32) (c : Int) : BitVec 32 := stps 8 (n ^^^ by32 c)
def raw (n : BitVec 32) (l : List Int) : BitVec 32 := l.foldl byt n
def on (s : BitVec 32) (l : List Int) : BitVec 32 := ~~~ (raw (~~~ s) l)
def num (n : BitVec 32) : Int := (n.toNat : Int)
theorem num_range (n : BitVec 32) : 0 ≤ num n ∧ num n < 4294967296 := by have := n.isLt; unfold num; omega
theorem num_inj {a b : BitVec 32} (h : num a = num b) : a = b := by
  unfold num at h; exact BitVec.eq_of_toNat_eq (by omega)
theorem of_num (n : BitVec 32) : BitVec.ofInt 32 (num n) = n := by
  unfold num; rw [BitVec.ofInt_natCast, BitVec.ofNat_toNat, BitVec.setWidth_eq]
theorem num_of {x : Int} (h0 : 0 ≤ x) (h1 : x < 4294967296) : num (BitVec.ofInt 32 x) = x := by
  unfold num; rw [BitVec.toNat_ofInt]; omega
theorem stps_succ' (k : Nat) : ∀ n, stps (k + 1) n = stp (stps k n) := by
  induction k with
  | zero => intro n; rfl
  | succ k ih => intro n; show stps (k + 1) (stp n) = _; rw [ih]; rfl
theorem stps_add (j k : Nat) : ∀ n, stps (j + k) n = stps k (stps j n) := by
  induction j with
  | zero => intro n; simp [stps]
  | succ j ih => intro n; rw [Nat.succ_add]; show stps (j + k) (stp n) = _; rw [ih]; rfl
theorem neg_and_one (n : BitVec 32) : -(n &&& 1#32) = if n.getLsbD 0 then BitVec.allOnes 32 else 0#32 := by
  by_cases h : n.getLsbD 0 = true
  · rw [if_pos h]
    have : n &&& 1#32 = 1#32 := by
      apply BitVec.eq_of_getLsbD_eq
      intro i hi
      rw [BitVec.getLsbD_and, BitVec.getLsbD_one]
      by_cases e : i = 0
      · subst e; simp [h]
      · simp [e]
    rw [this]; decide
  · rw [if_neg h]
    have : n &&& 1#32 = 0#32 := by
      apply BitVec.eq_of_getLsbD_eq
      intro i hi
      rw [BitVec.getLsbD_and, BitVec.getLsbD_one]
      by_cases e : i = 0
      · subst e; simpa using h
      · simp [e]
    rw [this]; decide
theorem stp_bit (n : BitVec 32) : stp n = (n >>> 1) ^^^ (if n.getLsbD 0 then 3988292384#32 else 0#32) := by
  unfold stp; rw [neg_and_one]; split <;> simp
theorem stp_xor (a b : BitVec 32) : stp (a ^^^ b) = stp a ^^^ stp b := by
  rw [stp_bit, stp_bit, stp_bit, BitVec.getLsbD_xor, BitVec.ushiftRight_xor_distrib]
  cases a.getLsbD 0 <;> cases b.getLsbD 0 <;> simp only [Bool.false_xor, Bool.true_xor, Bool.not_false, Bool.not_true, Bool.false_eq_true, if_true, if_false, BitVec.xor_zero]
  · ac_rfl
  · ac_rfl
  · rw [show a >>> 1 ^^^ 3988292384#32 ^^^ (b >>> 1 ^^^ 3988292384#32) = a >>> 1 ^^^ b >>> 1 ^^^ (3988292384#32 ^^^ 3988292384#32) by ac_rfl]; simp
theorem stp_zero : stp 0#32 = 0#32 := by decide
theorem stp_inj0 {n : BitVec 32} (h : stp n = 0#32) : n = 0#32 := by
  rw [stp_bit] at h
  have h31 : ((n >>> 1) ^^^ (if n.getLsbD 0 then 3988292384#32 else 0#32)).getLsbD 31 = false := by rw [h]; simp
  rw [BitVec.getLsbD_xor, BitVec.getLsbD_ushiftRight] at h31
  have hb : n.getLsbD 32 = false := BitVec.getLsbD_of_ge n 32 (by omega)
  cases h0 : n.getLsbD 0 with
  | true => rw [h0, hb] at h31; exact absurd h31 (by decide)
  | false =>
    rw [h0] at h
    simp at h
    apply BitVec.eq_of_getLsbD_eq
    intro i hi
    cases i with
    | zero => simpa using h0
    | succ i =>
      have : (n >>> 1).getLsbD i = false := by rw [h]; simp
      rw [BitVec.getLsbD_ushiftRight] at this
      rw [Nat.add_comm] at this
      simpa using this
theorem stps_xor (k : Nat) : ∀ a b, stps k (a ^^^ b) = stps k a ^^^ stps k b := by
  induction k with
  | zero => intro a b; rfl
  | succ k ih => intro a b; show stps k (stp (a ^^^ b)) = _; rw [stp_xor, ih]; rfl
theorem stps_inj0 (k : Nat) : ∀ n, stps k n = 0#32 → n = 0#32 := by
  induction k with
  | zero => intro n h; exact h
  | succ k ih => intro n h; exact stp_inj0 (ih _ h)
theorem xor_eq_zero {a b : BitVec 32} : a ^^^ b = 0#32 ↔ a = b := by
  constructor
  · intro h
    have : a ^^^ b ^^^ b = 0#32 ^^^ b := by rw [h]
    rwa [BitVec.xor_assoc, BitVec.xor_self, BitVec.xor_zero, BitVec.zero_xor] at this
  · rintro rfl; exact BitVec.xor_self
theorem stps_inj (k : Nat) {a b : BitVec 32} (h : stps k a = stps k b) : a = b := by
  have := stps_inj0 k (a ^^^ b) (by rw [stps_xor, h]; exact BitVec.xor_self)
  exact xor_eq_zero.1 this
theorem raw_append (n : BitVec 32) (a b : List Int) : raw n (a ++ b) = raw (raw n a) b := List.foldl_append
theorem on_nil (s : BitVec 32) : on s [] = s := by simp [on, raw]
theorem on_append (s : BitVec 32) (a b : List Int) : on s (a ++ b) = on (on s a) b := by
  unfold on; rw [raw_append, BitVec.not_not]
theorem stps_shift (k : Nat) : ∀ n : BitVec 32, (∀ i, i < k → n.getLsbD i = false) → stps k n = n >>> k := by
  induction k with
  | zero => intro n _; simp [stps]
  | succ k ih =>
    intro n h
    have h1 : stp n = n >>> 1 := by rw [stp_bit, h 0 (by omega)]; simp
    show stps k (stp n) = _
    rw [h1, ih _ (fun i hi => by rw [BitVec.getLsbD_ushiftRight]; exact h _ (by omega)), ← BitVec.shiftRight_add, Nat.add_comm]
theorem split8 (n : BitVec 32) : n = (n &&& 255#32) ^^^ (n &&& ~~~ 255#32) := by
  apply BitVec.eq_of_getLsbD_eq
  intro i hi
  simp only [BitVec.getLsbD_xor, BitVec.getLsbD_and, BitVec.getLsbD_not]
  cases n.getLsbD i <;> cases (255#32).getLsbD i <;> simp [hi]
theorem low_255 (i : Nat) : (255#32).getLsbD i = decide (i < 8) := by
  by_cases h : i < 32
  · have : ∀ j : Fin 32, (255#32).getLsbD j.val = decide (j.val < 8) := by decide
    exact this ⟨i, h⟩
  · rw [BitVec.getLsbD_of_ge _ _ (by omega)]; simp; omega
theorem byt_table (n : BitVec 32) : stps 8 n = (n >>> 8) ^^^ stps 8 (n &&& 255#32) := by
  have h : stps 8 n = stps 8 ((n &&& 255#32) ^^^ (n &&& ~~~ 255#32)) := by rw [← split8]
  rw [h, stps_xor, stps_shift 8 (n &&& ~~~ 255#32)]
  · rw [BitVec.xor_comm]
    congr 1
    apply BitVec.eq_of_getLsbD_eq
    intro i hi
    rw [BitVec.getLsbD_ushiftRight, BitVec.getLsbD_ushiftRight, BitVec.getLsbD_and, BitVec.getLsbD_not, low_255]
    by_cases h32 : 8 + i < 32
    · simp [h32]
    · rw [BitVec.getLsbD_of_ge n _ (by omega)]; simp
  · intro i hi
    rw [BitVec.getLsbD_and, BitVec.getLsbD_not, low_255]
    simp [hi]
theorem w32 (x : BitVec 32) : IntKind.u32.wrap (x.toNat : Int) = num x := by
  have := x.isLt
  rw [IntKind.wrap_u32']; unfold num; omega
theorem bits_xor (a b : BitVec 32) : bits .xor .u32 (num a) (num b) = num (a ^^^ b) := by
  unfold bits; show IntKind.u32.wrap ((BitVec.ofInt 32 (num a) ^^^ BitVec.ofInt 32 (num b)).toNat : Int) = _
  rw [of_num, of_num, w32]
theorem bits_and (a b : BitVec 32) : bits .and .u32 (num a) (num b) = num (a &&& b) := by
  unfold bits; show IntKind.u32.wrap ((BitVec.ofInt 32 (num a) &&& BitVec.ofInt 32 (num b)).toNat : Int) = _
  rw [of_num, of_num, w32]
theorem num_neg (a : BitVec 32) : (-(num a)) % 4294967296 = num (-a) := by
  have := a.isLt
  unfold num; rw [BitVec.toNat_neg]; omega
theorem num_shr1 (a : BitVec 32) : num a / (2 : Int) = num (a >>> 1) := by
  unfold num; rw [BitVec.toNat_ushiftRight, Nat.shiftRight_eq_div_pow]; omega
theorem num_shr8 (a : BitVec 32) : num a / (256 : Int) = num (a >>> 8) := by
  unfold num; rw [BitVec.toNat_ushiftRight, Nat.shiftRight_eq_div_pow]; omega
theorem one_num : (1 : Int) = num 1#32 := by decide
theorem poly_num : (3988292384 : Int) = num 3988292384#32 := by decide
theorem all_num : (4294967295 : Int) = num (BitVec.allOnes 32) := by decide
theorem stp_walk (a : BitVec 32) : bits .xor .u32 (num a / (2 : Int)) (bits .and .u32 3988292384 (-bits .and .u32 (num a) 1 % 4294967296)) = num (stp a) := by
  rw [poly_num, one_num, bits_and, num_neg, bits_and, num_shr1, bits_xor]; rfl
theorem bits_not (x : BitVec 32) : bits .xor .u32 IntKind.u32.max (num x) = num (~~~ x) := by
  have h : bits .xor .u32 4294967295 (num x) = num (~~~ x) := by
    rw [all_num, bits_xor, BitVec.allOnes_xor]
  rw [← h]; rfl
def ix (x : BitVec 32) (y : Int) : BitVec 32 := (x ^^^ by32 y) &&& 255#32
theorem ix_range (x : BitVec 32) (y : Int) : 0 ≤ num (ix x y) ∧ num (ix x y) < 256 := by
  have h : (ix x y).toNat ≤ 255 := by unfold ix; rw [BitVec.toNat_and]; exact Nat.and_le_right
  unfold num; omega
theorem by32_toNat {y : Int} (h0 : 0 ≤ y) (h1 : y < 256) : (by32 y).toNat = y.toNat := by
  unfold by32; rw [BitVec.toNat_ofInt]; omega
theorem bits_ix (x : BitVec 32) (y : Int) (h0 : 0 ≤ y) (h1 : y < 256) : bits .xor .u8 (num x % 256) y = num (ix x y) := by
  obtain ⟨n, rfl⟩ := Int.eq_ofNat_of_zero_le h0
  have e : num x % 256 = ((x.toNat % 256 : Nat) : Int) := by unfold num; omega
  rw [e, u8_xor_nat _ _ (Nat.mod_lt _ (by omega)) (by omega)]
  unfold num ix
  rw [BitVec.toNat_and, BitVec.toNat_xor, by32_toNat h0 h1]
  have h8 : ∀ a : Nat, a &&& 255 = a % 256 := nat_mask8
  show _ = (((x.toNat ^^^ n) &&& 255 : Nat) : Int)
  rw [h8]
  congr 1
  rw [show (256 : Nat) = 2 ^ 8 from rfl, Nat.xor_mod_two_pow, Nat.mod_eq_of_lt (a := n) (by omega)]
theorem byt_walk (x : BitVec 32) (y : Int) (h0 : 0 ≤ y) (h1 : y < 256) : bits .xor .u32 (num x / (256 : Int)) (num (stps 8 (ix x y))) = num (byt x y) := by
  rw [num_shr8, bits_xor]
  unfold byt ix
  rw [byt_table (x ^^^ by32 y), BitVec.ushiftRight_xor_distrib]
  have : by32 y >>> 8 = 0#32 := by
    apply BitVec.eq_of_toNat_eq
    rw [BitVec.toNat_ushiftRight, by32_toNat h0 h1, Nat.shiftRight_eq_div_pow]
    show y.toNat / 256 = 0
    omega
  rw [this, BitVec.xor_zero]
end Go.Proofs.YticnjkdaccacaaaGreatDoor.Crc
end
section
namespace Go.Proofs.YticnjkdaccacaaaGreatDoor.Base
open Go Go.RowKit
theorem below_weak {B : Nat} {w1 w2 : World} (h : B ≤ w1.heap.size) (hb : Below w1.heap.size w1 w2) : Below B w1 w2 := ⟨hb.os, hb.tape, hb.output, hb.size, fun i hi => hb.block i (by omega)⟩
section
variable {P : Program} {ops : Array Oper} {Q : Exit → Act → World → Prop} {S : World → Prop}
def np (Q : Exit → Act → World → Prop) : Exit → Act → World → Prop
  | .panic _, _, _ => False
  | e, a, w => Q e a w
inductive Sg where
  | one (x : Nat × Bool × Option Tmp)
  | two (i j : Nat) (N M : Option Tmp)
def cost : List Sg → Nat
  | [] => 0
  | .one _ :: r => cost r + 1
  | .two _ _ _ _ :: r => cost r + 2
def Sched (P : Program) (ops : Array Oper) (Q : Exit → Act → World → Prop) (S : World → Prop) : List Sg → Act → World → Prop
  | [], a, w => Q .normal a w
  | .one (i, true, N) :: r, a, w => ∃ o v, ops[i]? = some o ∧ o.dst = N ∧ YieldsIf P ops S o v a ∧ Sched P ops Q S r (a.put N v) w
  | .one (i, false, N) :: r, a, w => ∃ o, ops[i]? = some o ∧ o.dst = N ∧ ∀ K : Act → World → Prop, (∀ a' w', S w' → Sched P ops Q S r a' w' → K a' w') →
      if Region.wanted o (yielded ops a.tmps) = true then Oper.wp P o a w K (fun _ _ _ => False) else K (a.put N undef) w
  | .two i j N M :: r, a, w => ∃ o p, ops[i]? = some o ∧ ops[j]? = some p ∧ o.dst = N ∧ p.dst = M ∧ (∀ t, Region.wanted o t = true) ∧ (∀ t, Region.wanted p t = true) ∧
      ∀ K : Act → World → Prop, (∀ a' w', S w' → Sched P ops Q S r a' w' → K a' w') →
        Oper.wp P o a w (fun a' w' => S w' ∧ Oper.wp P p a' w' K (fun _ _ _ => False)) (fun _ _ _ => False) ∧ Oper.wp P p a w (fun a' w' => S w' ∧ Oper.wp P o a' w' K (fun _ _ _ => False)) (fun _ _ _ => False)
def okS (ops : Array Oper) : Array Bool → List Sg → Bool
  | l, [] => Region.ready .any ops l == []
  | l, .one (i, true, _) :: r => Region.free .any ops l i && (Region.ready .any ops l).contains i && okS ops (l.setIfInBounds i true) r
  | l, .one (i, false, _) :: r => (Region.ready .any ops l == [i]) && okS ops (l.setIfInBounds i true) r
  | l, .two i j _ _ :: r => i != j && (Region.ready .any ops l == [i, j]) && (Region.ready .any ops (l.setIfInBounds i true) == [j]) && (Region.ready .any ops (l.setIfInBounds j true) == [i]) && okS ops ((l.setIfInBounds i true).setIfInBounds j true) r
theorem upon_weaken {o : Oper} {a : Act} {w : World} {K : Act → World → Prop} (Q : Exit → Act → World → Prop) (h : Oper.wp P o a w K (fun _ _ _ => False)) : Oper.wp P o a w K Q := by
  unfold Oper.wp at *
  generalize (execOp a.eval o).run P w = r at *
  cases r with
  | ok n w' =>
    cases n <;> simp only [Oper.upon] at h ⊢ <;> try exact h
    case enter f args =>
      refine h.mono fun e w'' hh => ?_
      cases e with
      | returned v => exact hh
      | panicked c => exact hh.elim
      | outgrown => obtain ⟨_, _, x⟩ := hh; exact x.elim
  | halt x w' =>
    cases x <;> simp only [Oper.upon] at h ⊢
theorem upon_mono {o : Oper} {a : Act} {w : World} {K K' : Act → World → Prop} {Q : Exit → Act → World → Prop} (hK : ∀ a' w', K a' w' → K' a' w') (h : Oper.wp P o a w K (fun _ _ _ => False)) : Oper.wp P o a w K' Q := by
  have h := upon_weaken Q h
  unfold Oper.wp at *
  generalize (execOp a.eval o).run P w = r at *
  cases r with
  | ok n w' =>
    cases n <;> simp only [Oper.upon] at h ⊢ <;> first | exact hK _ _ h | exact h | skip
    case enter f args =>
      refine h.mono fun e w'' hh => ?_
      cases e with
      | returned v => exact hK _ _ hh
      | panicked c => exact hh
      | outgrown => exact hh
    case row row args => exact Rows.mono h fun u w'' he => hK _ _ he
  | halt x w' =>
    cases x <;> simp only [Oper.upon] at h ⊢ <;> exact h
theorem wpOp_of {i : Nat} {o : Oper} {K : Act → World → Prop} {a : Act} {w : World} (ho : ops[i]? = some o) (hw : ∀ t, Region.wanted o t = true) (h : Oper.wp P o a w K (fun _ _ _ => False)) : wpOp P ops Q i K a w := by
  unfold wpOp
  simp only [ho]
  rw [if_pos (hw _)]
  exact .inl (upon_weaken _ h)
theorem sched_held (hsel : Region.noSelect ops = true) : ∀ (σ : List Sg) (l : Array Bool) (a : Act) (w : World), okS ops l σ = true → S w → Sched P ops Q S σ a w →
    wpAnyH P .any ops (np Q) S (cost σ) l a w := by
  intro σ
  induction σ with
  | nil => intro l a w hok _ h; exact ⟨by simpa [okS] using hok, h⟩
  | cons x r ih =>
    cases x with
    | one x =>
      obtain ⟨i, b, N⟩ := x
      intro l a w hok hS h
      cases b with
      | true =>
        obtain ⟨o, v, ho, rfl, hy, h⟩ := h
        simp only [okS, Bool.and_eq_true] at hok
        exact wpAnyH_take ho hsel hok.1.1 hok.1.2 (fun _ _ _ hp => hp) hy hS (ih _ _ _ hok.2 hS h)
      | false =>
        obtain ⟨o, ho, rfl, h⟩ := h
        simp only [okS, Bool.and_eq_true, beq_iff_eq] at hok
        refine wpAnyH_all hok.1 (by simp) ?_
        intro j hj
        simp only [List.mem_singleton] at hj
        subst hj
        have h' := h (fun a' w' => S w' ∧ wpAnyH P .any ops (np Q) S (cost r) (l.setIfInBounds j true) a' w') (fun a' w' hS' hh => ⟨hS', ih _ _ _ hok.2 hS' hh⟩)
        unfold wpOp
        simp only [ho]
        split
        · rename_i hw; rw [if_pos hw] at h'; exact .inl (upon_weaken _ h')
        · rename_i hw; rw [if_neg hw] at h'; exact h'
    | two i j N M =>
      intro l a w hok hS h
      obtain ⟨o, p, ho, hp, rfl, rfl, wo, wp, h⟩ := h
      simp only [okS, Bool.and_eq_true, beq_iff_eq, bne_iff_ne] at hok
      obtain ⟨⟨⟨⟨hne, h1⟩, h2⟩, h3⟩, h4⟩ := hok
      obtain ⟨hA, hB⟩ := h (fun a' w' => S w' ∧ wpAnyH P .any ops (np Q) S (cost r) ((l.setIfInBounds i true).setIfInBounds j true) a' w') (fun a' w' hS' hh => ⟨hS', ih _ _ _ h4 hS' hh⟩)
      show wpAnyH P .any ops (np Q) S (cost r + 1 + 1) l a w
      refine wpAnyH_all h1 (by simp) ?_
      intro k hk
      simp only [List.mem_cons, List.not_mem_nil, or_false] at hk
      rcases hk with rfl | rfl
      · refine wpOp_of ho wo (upon_mono (fun a' w' ⟨hs, hh⟩ => ⟨hs, wpAnyH_all h2 (by simp) fun m hm => ?_⟩) hA)
        simp only [List.mem_singleton] at hm
        subst hm
        exact wpOp_of hp wp hh
      · refine wpOp_of hp wp (upon_mono (fun a' w' ⟨hs, hh⟩ => ⟨hs, wpAnyH_all h3 (by simp) fun m hm => ?_⟩) hB)
        simp only [List.mem_singleton] at hm
        subst hm
        rw [Array.setIfInBounds_comm _ _ (Ne.symm hne)]
        exact wpOp_of ho wo hh
theorem np_mono {c : Code} {a : Act} {w : World} (h : c.wp P (np Q) a w) : c.wp P Q a w :=
  Code.wp_mono (fun e a w q => by cases e <;> first | exact q | exact q.elim) h
theorem wp_region_sched {id : Nat} {a : Act} {w : World} (σ : List Sg) (S : World → Prop) (hm : P.follows .mixedOrders = true)
    (hok : (Region.noSelect ops && (ops.size == cost σ) && okS ops (Array.replicate ops.size false) σ) = true) (hS : S w.drew) (h : Sched P ops Q S σ a w.drew) : (Code.region id ops true).wp P Q a w := by
  simp only [Bool.and_eq_true, beq_iff_eq] at hok
  obtain ⟨⟨h1, h2⟩, h3⟩ := hok
  refine np_mono (wp_region_held (S := S) hm ?_)
  rw [h2] at h3 ⊢
  exact sched_held h1 σ _ a _ h3 hS h
structure SOp where
  q : Bool
  dst : Option Tmp
  op : Op
  type : TypeId
  g : Option (Tmp × Bool)
def SOp.oper (s : SOp) : Oper := { dst := s.dst, op := s.op, type := s.type, pos := "", after := #[], guard := none }
def SOp.wanted (s : SOp) (tmps : Array Value) : Bool :=
  match s.g with
  | none => true
  | some (t, want) => match tmps.getD t undef with
    | .bool b => b == want
    | _ => false
def strip (ops : Array Oper) (x : Nat × Bool × Option Tmp) : Option SOp :=
  (ops[x.1]?).bind fun o => match o.guard with
    | none => some ⟨x.2.1, x.2.2, o.op, o.type, none⟩
    | some (j, want) => ((ops[j]?).bind (·.dst)).map fun t => ⟨x.2.1, x.2.2, o.op, o.type, some (t, want)⟩
inductive Itm where
  | one (s : SOp)
  | two (s t : SOp)
def strips (ops : Array Oper) : List Sg → Option (List Itm)
  | [] => some []
  | .one x :: r => (strip ops x).bind fun s => (strips ops r).map (.one s :: ·)
  | .two i j N M :: r => (strip ops (i, false, N)).bind fun s => (strip ops (j, false, M)).bind fun t => if s.g.isNone && t.g.isNone then (strips ops r).map (.two s t :: ·) else none
def dstsOk (ops : Array Oper) (σ : List Sg) : Bool := σ.all fun x => match x with
  | .one x => (ops[x.1]?).map (·.dst) == some x.2.2
  | .two i j N M => (ops[i]?).map (·.dst) == some N && (ops[j]?).map (·.dst) == some M
def SL (P : Program) (Q : Exit → Act → World → Prop) (S : World → Prop) : List Itm → Act → World → Prop
  | [], a, w => Q .normal a w
  | .one s :: r, a, w => (s.wanted a.tmps = false ∧ (s.q = true ∨ S w) ∧ SL P Q S r (a.put s.dst undef) w) ∨
      (s.wanted a.tmps = true ∧ s.q = true ∧ ∃ v, (∀ w', S w' → (execOp a.eval s.oper).run P w' = .ok (.value v) w') ∧ SL P Q S r (a.put s.dst v) w) ∨
      (s.wanted a.tmps = true ∧ s.q = false ∧ ∀ K : Act → World → Prop, (∀ a' w', S w' → SL P Q S r a' w' → K a' w') → Oper.wp P s.oper a w K (fun _ _ _ => False))
  | .two s t :: r, a, w => ∀ K : Act → World → Prop, (∀ a' w', S w' → SL P Q S r a' w' → K a' w') →
      Oper.wp P s.oper a w (fun a' w' => S w' ∧ Oper.wp P t.oper a' w' K (fun _ _ _ => False)) (fun _ _ _ => False) ∧ Oper.wp P t.oper a w (fun a' w' => S w' ∧ Oper.wp P s.oper a' w' K (fun _ _ _ => False)) (fun _ _ _ => False)
theorem strip_wanted {x : Nat × Bool × Option Tmp} {s : SOp} {o : Oper} (ho : ops[x.1]? = some o) (h : strip ops x = some s) (tmps : Array Value) :
    Region.wanted o (yielded ops tmps) = s.wanted tmps ∧ s.q = x.2.1 ∧ s.dst = x.2.2 ∧ s.op = o.op ∧ s.type = o.type := by
  unfold strip at h
  rw [ho] at h
  simp only [Option.bind_some] at h
  cases hg : o.guard with
  | none => rw [hg] at h; simp only [Option.some.injEq] at h; subst h; exact ⟨by simp [Region.wanted, hg, SOp.wanted], rfl, rfl, rfl, rfl⟩
  | some g =>
    obtain ⟨j, want⟩ := g
    rw [hg] at h
    simp only [Option.map_eq_some_iff] at h
    obtain ⟨t, ht, rfl⟩ := h
    refine ⟨?_, rfl, rfl, rfl, rfl⟩
    simp only [Region.wanted, hg, SOp.wanted, yielded, ht, Option.bind_some]
    rw [Array.getD_eq_getD_getElem?]
    cases hv : tmps[t]? with
    | none => rfl
    | some v => cases v <;> simp
theorem oper_same {o : Oper} {s : SOp} {a : Act} {w : World} {K : Act → World → Prop} (hop : s.op = o.op) (hty : s.type = o.type) (hd : s.dst = o.dst) (h : Oper.wp P s.oper a w K (fun _ _ _ => False)) : Oper.wp P o a w K (fun _ _ _ => False) := by
  have hex : execOp a.eval o = execOp a.eval s.oper := by unfold execOp SOp.oper; simp only [hop, hty]
  have e : o.upon P a K (fun _ _ _ => False) = s.oper.upon P a K (fun _ _ _ => False) := by
    funext r
    have ed : s.oper.dst = o.dst := hd
    cases r with
    | ok n w' => cases n <;> simp only [Oper.upon, ed]
    | halt x w' => cases x <;> simp only [Oper.upon]
  unfold Oper.wp at h ⊢
  rw [hex, e]
  exact h
theorem sl_sched : ∀ (σ : List Sg) (L : List Itm) (a : Act) (w : World), strips ops σ = some L → dstsOk ops σ = true → SL P Q S L a w → Sched P ops Q S σ a w := by
  intro σ
  induction σ with
  | nil => intro L a w hL _ h; simp only [strips, Option.some.injEq] at hL; subst hL; exact h
  | cons x r ih =>
    cases x with
    | one x =>
      intro L a w hL hd h
      simp only [strips, Option.bind_eq_some_iff, Option.map_eq_some_iff] at hL
      obtain ⟨s, hs, L', hL', rfl⟩ := hL
      have hx : ((ops[x.1]?).map (·.dst) == some x.2.2) = true ∧ dstsOk ops r = true := by simpa [dstsOk] using hd
      obtain ⟨hx, hr⟩ := hx
      cases ho : ops[x.1]? with
      | none => rw [ho] at hx; simp at hx
      | some o =>
        rw [ho] at hx
        have hdst : o.dst = x.2.2 := by simpa using hx
        obtain ⟨i, b, N⟩ := x
        obtain ⟨hw, hq, hsd, hop, hty⟩ := strip_wanted ho hs a.tmps
        have hdst' : o.dst = N := hdst
        have hsd' : s.dst = N := hsd
        have hq' : s.q = b := hq
        have hex : execOp a.eval o = execOp a.eval s.oper := by unfold execOp SOp.oper; simp only [hop, hty]
        cases b with
        | true =>
          rcases h with ⟨h1, _, h2⟩ | ⟨h1, _, v, hv, h2⟩ | ⟨_, h2, _⟩
          · exact ⟨o, undef, ho, hdst', .inr ⟨hw.trans h1, rfl⟩, by rw [← hsd']; exact ih _ _ _ hL' hr h2⟩
          · exact ⟨o, v, ho, hdst', .inl ⟨hw.trans h1, fun w' hS' => by rw [hex]; exact hv w' hS'⟩, by rw [← hsd']; exact ih _ _ _ hL' hr h2⟩
          · rw [hq'] at h2; cases h2
        | false =>
          refine ⟨o, ho, hdst', fun K hK => ?_⟩
          rcases h with ⟨h1, h3, h2⟩ | ⟨_, h2, _⟩ | ⟨h1, _, h2⟩
          · rw [if_neg (by rw [hw, h1]; exact Bool.false_ne_true)]
            rcases h3 with h3 | h3
            · rw [hq'] at h3; cases h3
            · exact hK _ _ h3 (by rw [← hsd']; exact ih _ _ _ hL' hr h2)
          · rw [hq'] at h2; cases h2
          · rw [if_pos (by rw [hw, h1])]
            exact oper_same hop hty (hsd'.trans hdst'.symm) (h2 K (fun a' w' hS' hh => hK a' w' hS' (ih _ _ _ hL' hr hh)))
    | two i j N M =>
      intro L a w hL hd h
      simp only [strips, Option.bind_eq_some_iff] at hL
      obtain ⟨s, hs, t, ht, hL⟩ := hL
      split at hL
      case isFalse => cases hL
      rename_i hg
      rw [Option.map_eq_some_iff] at hL
      obtain ⟨L', hL', rfl⟩ := hL
      simp only [Bool.and_eq_true, Option.isNone_iff_eq_none] at hg
      have hx : (((ops[i]?).map (·.dst) == some N) = true ∧ ((ops[j]?).map (·.dst) == some M) = true) ∧ dstsOk ops r = true := by simpa [dstsOk] using hd
      obtain ⟨⟨hx, hy⟩, hr⟩ := hx
      cases ho : ops[i]? with
      | none => rw [ho] at hx; simp at hx
      | some o =>
      cases hp : ops[j]? with
      | none => rw [hp] at hy; simp at hy
      | some p =>
        rw [ho] at hx
        rw [hp] at hy
        have hd1 : o.dst = N := by simpa using hx
        have hd2 : p.dst = M := by simpa using hy
        obtain ⟨_, _, hsd, hop, hty⟩ := strip_wanted (x := (i, false, N)) ho hs a.tmps
        obtain ⟨_, _, hsd2, hop2, hty2⟩ := strip_wanted (x := (j, false, M)) hp ht a.tmps
        have w1 : ∀ tt, Region.wanted o tt = true := by
          intro tt
          have hgo : o.guard = none := by
            unfold strip at hs
            rw [ho] at hs
            simp only [Option.bind_some] at hs
            cases hgg : o.guard with
            | none => rfl
            | some g =>
              rw [hgg] at hs
              simp only [Option.map_eq_some_iff] at hs
              obtain ⟨t', _, rfl⟩ := hs
              exact absurd hg.1 (by simp)
          simp [Region.wanted, hgo]
        have w2 : ∀ tt, Region.wanted p tt = true := by
          intro tt
          have hgo : p.guard = none := by
            unfold strip at ht
            rw [hp] at ht
            simp only [Option.bind_some] at ht
            cases hgg : p.guard with
            | none => rfl
            | some g =>
              rw [hgg] at ht
              simp only [Option.map_eq_some_iff] at ht
              obtain ⟨t', _, rfl⟩ := ht
              exact absurd hg.2 (by simp)
          simp [Region.wanted, hgo]
        refine ⟨o, p, ho, hp, hd1, hd2, w1, w2, fun K hK => ?_⟩
        obtain ⟨hA, hB⟩ := h K (fun a' w' hS' hh => hK a' w' hS' (ih _ _ _ hL' hr hh))
        exact ⟨oper_same hop hty (hsd.trans hd1.symm) (upon_mono (fun a' w' ⟨h1, h2⟩ => ⟨h1, oper_same hop2 hty2 (hsd2.trans hd2.symm) h2⟩) hA),
          oper_same hop2 hty2 (hsd2.trans hd2.symm) (upon_mono (fun a' w' ⟨h1, h2⟩ => ⟨h1, oper_same hop hty (hsd.trans hd1.symm) h2⟩) hB)⟩
theorem wp_region_sl {id : Nat} {a : Act} {w : World} (σ : List Sg) (L : List Itm) (S : World → Prop) (hm : P.follows .mixedOrders = true)
    (hok : (Region.noSelect ops && (ops.size == cost σ) && okS ops (Array.replicate ops.size false) σ && dstsOk ops σ) = true) (hL : strips ops σ = some L) (hS : S w.drew) (h : SL P Q S L a w.drew) : (Code.region id ops true).wp P Q a w := by
  simp only [Bool.and_eq_true] at hok
  exact wp_region_sched σ S hm (by simp only [Bool.and_eq_true]; exact hok.1) hS (sl_sched σ L a _ hL hok.2 h)
section
variable {N : Option Tmp} {op : Op} {ty : TypeId} {r : List Itm} {a a' : Act} {w w' : World} {v : Value} {q : Bool}
theorem sq (hv : ∀ w', S w' → (execOp a.eval ⟨N, op, ty, "", #[], none⟩).run P w' = .ok (.value v) w') (ha : a.put N v = a') (h : SL P Q S r a' w) : SL P Q S (.one ⟨true, N, op, ty, none⟩ :: r) a w :=
  .inr (.inl ⟨rfl, rfl, v, hv, by subst ha; exact h⟩)
theorem sqg {t : Tmp} {b : Bool} (hw : (a.tmps.getD t undef) = .bool b) (hv : ∀ w', S w' → (execOp a.eval ⟨N, op, ty, "", #[], none⟩).run P w' = .ok (.value v) w') (ha : a.put N v = a') (h : SL P Q S r a' w) : SL P Q S (.one ⟨true, N, op, ty, some (t, b)⟩ :: r) a w :=
  .inr (.inl ⟨by simp only [SOp.wanted, hw]; simp, rfl, v, hv, by subst ha; exact h⟩)
theorem sn {t : Tmp} {b : Bool} (hw : (a.tmps.getD t undef) = .bool (!b)) (ha : a.put N undef = a') (h : SL P Q S r a' w) : SL P Q S (.one ⟨true, N, op, ty, some (t, b)⟩ :: r) a w :=
  .inl ⟨by simp only [SOp.wanted, hw]; cases b <;> rfl, .inl rfl, by subst ha; exact h⟩
theorem sf {t : Tmp} {b : Bool} (hS : S w) (hw : (a.tmps.getD t undef) = .bool (!b)) (ha : a.put N undef = a') (h : SL P Q S r a' w) : SL P Q S (.one ⟨false, N, op, ty, some (t, b)⟩ :: r) a w :=
  .inl ⟨by simp only [SOp.wanted, hw]; cases b <;> rfl, .inr hS, by subst ha; exact h⟩
theorem se (h : ∀ K : Act → World → Prop, (∀ a' w', S w' → SL P Q S r a' w' → K a' w') → Oper.wp P ⟨N, op, ty, "", #[], none⟩ a w K (fun _ _ _ => False)) : SL P Q S (.one ⟨false, N, op, ty, none⟩ :: r) a w :=
  .inr (.inr ⟨rfl, rfl, h⟩)
theorem seg {t : Tmp} {b : Bool} (hw : (a.tmps.getD t undef) = .bool b) (h : ∀ K : Act → World → Prop, (∀ a' w', S w' → SL P Q S r a' w' → K a' w') → Oper.wp P ⟨N, op, ty, "", #[], none⟩ a w K (fun _ _ _ => False)) : SL P Q S (.one ⟨false, N, op, ty, some (t, b)⟩ :: r) a w :=
  .inr (.inr ⟨by simp only [SOp.wanted, hw]; simp, rfl, h⟩)
theorem se' (h : ∀ K : Act → World → Prop, (∀ a' w', S w' → (∀ a'', a' = a'' → SL P Q S r a'' w') → K a' w') → Oper.wp P ⟨N, op, ty, "", #[], none⟩ a w K (fun _ _ _ => False)) : SL P Q S (.one ⟨false, N, op, ty, none⟩ :: r) a w :=
  se fun K hK => h K fun a' w' hS hh => hK a' w' hS (hh a' rfl)
theorem call_wp {f : FuncId} {args : Array Value} {K : Act → World → Prop} (hrun : (execOp a.eval ⟨N, op, ty, "", #[], none⟩).run P w = .ok (.enter f args) w) (h : Calls P f args w fun e w' => ∃ v, e = .returned v ∧ K (a.put N v) w') :
    Oper.wp P ⟨N, op, ty, "", #[], none⟩ a w K (fun _ _ _ => False) := by
  unfold Oper.wp
  rw [hrun, Oper.upon_enter]
  refine h.mono fun e w'' hh => ?_
  obtain ⟨v, rfl, hk⟩ := hh
  exact hk
theorem sc (f : FuncId) (args : Array Value) (hrun : (execOp a.eval ⟨N, op, ty, "", #[], none⟩).run P w = .ok (.enter f args) w)
    (h : Calls P f args w fun e w' => ∃ v, e = .returned v ∧ S w' ∧ ∀ a', a.put N v = a' → SL P Q S r a' w') : SL P Q S (.one ⟨false, N, op, ty, none⟩ :: r) a w :=
  se fun K hK => call_wp hrun (h.mono fun e w' ⟨v, he, hS, hk⟩ => ⟨v, he, hK _ _ hS (hk _ rfl)⟩)
theorem scg {t : Tmp} {b : Bool} (f : FuncId) (args : Array Value) (hw : (a.tmps.getD t undef) = .bool b) (hrun : (execOp a.eval ⟨N, op, ty, "", #[], none⟩).run P w = .ok (.enter f args) w)
    (h : Calls P f args w fun e w' => ∃ v, e = .returned v ∧ S w' ∧ ∀ a', a.put N v = a' → SL P Q S r a' w') : SL P Q S (.one ⟨false, N, op, ty, some (t, b)⟩ :: r) a w :=
  seg hw fun K hK => call_wp hrun (h.mono fun e w' ⟨v, he, hS, hk⟩ => ⟨v, he, hK _ _ hS (hk _ rfl)⟩)
theorem sv (hrun : (execOp a.eval ⟨N, op, ty, "", #[], none⟩).run P w = .ok (.value v) w') (hS : S w') (ha : a.put N v = a') (h : SL P Q S r a' w') : SL P Q S (.one ⟨false, N, op, ty, none⟩ :: r) a w :=
  se fun K hK => by
    unfold Oper.wp
    rw [hrun, Oper.upon_value, ha]
    exact hK _ _ hS h
theorem svg {t : Tmp} {b : Bool} (hw : (a.tmps.getD t undef) = .bool b) (hrun : (execOp a.eval ⟨N, op, ty, "", #[], none⟩).run P w = .ok (.value v) w') (hS : S w') (ha : a.put N v = a') (h : SL P Q S r a' w') : SL P Q S (.one ⟨false, N, op, ty, some (t, b)⟩ :: r) a w :=
  seg hw fun K hK => by
    unfold Oper.wp
    rw [hrun, Oper.upon_value, ha]
    exact hK _ _ hS h
theorem s2 {s t : SOp} (h : ∀ K : Act → World → Prop, (∀ a' w', S w' → (∀ a'', a' = a'' → SL P Q S r a'' w') → K a' w') →
    Oper.wp P s.oper a w (fun a' w' => S w' ∧ Oper.wp P t.oper a' w' K (fun _ _ _ => False)) (fun _ _ _ => False) ∧ Oper.wp P t.oper a w (fun a' w' => S w' ∧ Oper.wp P s.oper a' w' K (fun _ _ _ => False)) (fun _ _ _ => False)) : SL P Q S (.two s t :: r) a w :=
  fun K hK => h K fun a' w' hS hh => hK a' w' hS (hh a' rfl)
theorem s2t {s t : SOp} (a1 : Act) (w1 : World) (ht : SL P Q S r a1 w1) (hS : S w1) (h : ∀ K : Act → World → Prop, K a1 w1 →
    Oper.wp P s.oper a w (fun a' w' => S w' ∧ Oper.wp P t.oper a' w' K (fun _ _ _ => False)) (fun _ _ _ => False) ∧ Oper.wp P t.oper a w (fun a' w' => S w' ∧ Oper.wp P s.oper a' w' K (fun _ _ _ => False)) (fun _ _ _ => False)) : SL P Q S (.two s t :: r) a w :=
  fun K hK => h K (hK a1 w1 hS ht)
theorem wp_value {o : Oper} {K : Act → World → Prop} {Q' : Exit → Act → World → Prop} (h : (execOp a.eval o).run P w = .ok (.value v) w') (hK : K (a.put o.dst v) w') : Oper.wp P o a w K Q' := by
  unfold Oper.wp
  rw [h, Oper.upon_value]
  exact hK
theorem s2lv {s t : SOp} {u : Value} {a1 : Act} (h1 : (execOp a.eval s.oper).run P w = .ok (.value v) w) (h2 : (execOp (a.put s.dst v).eval t.oper).run P w = .ok (.value u) w') (h3 : (execOp a.eval t.oper).run P w = .ok (.value u) w')
    (h4 : (execOp (a.put t.dst u).eval s.oper).run P w' = .ok (.value v) w') (hS : S w) (hS' : S w') (e1 : (a.put s.dst v).put t.dst u = a1) (e2 : (a.put t.dst u).put s.dst v = a1) (ht : SL P Q S r a1 w') : SL P Q S (.two s t :: r) a w :=
  fun K hK => ⟨wp_value h1 ⟨hS, wp_value h2 (by show K ((a.put s.dst v).put t.dst u) w'; rw [e1]; exact hK _ _ hS' ht)⟩, wp_value h3 ⟨hS', wp_value h4 (by show K ((a.put t.dst u).put s.dst v) w'; rw [e2]; exact hK _ _ hS' ht)⟩⟩
theorem sl_end (h : Q .normal a w) : SL P Q S [] a w := h
end
end
def Rd (k : IntKind) (w : World) (A : Option Addr) (l : List Int) : Prop :=
  l ≠ [] → ∃ ad, A = some ad ∧ ad.block < w.heap.size ∧ ∀ j, j < l.length → w.cell? (ad.add j) = some (.int k (l.getD j 0))
theorem add_block (ad : Addr) (n : Nat) : (ad.add n).block = ad.block := by rw [Addr.add]; split <;> rfl
theorem add_add (ad : Addr) (a b : Nat) : (ad.add a).add b = ad.add (a + b) := by
  unfold Addr.add
  by_cases h1 : a = 0
  · subst h1; simp
  · by_cases h2 : b = 0
    · subst h2; simp [h1]
    · rw [if_neg h1, if_neg h2, if_neg (by omega)]; simp [Nat.add_assoc]
theorem add_zero (ad : Addr) : ad.add 0 = ad := by simp [Addr.add]
section
variable {k : IntKind} {w w1 : World} {A : Option Addr} {l : List Int}
theorem Rd.below (h : Rd k w A l) (hb : Below w.heap.size w w1) : Rd k w1 A l := fun hne => by
  obtain ⟨ad, e, h1, h2⟩ := h hne
  exact ⟨ad, e, Nat.lt_of_lt_of_le h1 hb.size, fun j hj => by rw [hb.cell (p := ad.add j) (by rw [add_block]; exact h1)]; exact h2 j hj⟩
theorem Rd.mem {B : Nat} (h : Rd k w A l) (hB : ∀ ad, A = some ad → ad.block < B) (hb : Below B w w1) : Rd k w1 A l := fun hne => by
  obtain ⟨ad, e, h1, h2⟩ := h hne
  exact ⟨ad, e, Nat.lt_of_lt_of_le h1 hb.size, fun j hj => by rw [hb.cell (p := ad.add j) (by rw [add_block]; exact hB ad e)]; exact h2 j hj⟩
theorem Rd.nil : Rd k w A [] := fun h => absurd rfl h
theorem Rd.empty (h : Rd k w A l) (e : A = none) : l = [] := by
  rcases List.eq_nil_or_concat l with hl | ⟨_, _, hl⟩
  · exact hl
  · obtain ⟨ad, e', _⟩ := h (by rw [hl]; simp)
    rw [e] at e'; cases e'
theorem Rd.cell (h : Rd k w A l) {j : Nat} (hj : j < l.length) : ∃ ad, A = some ad ∧ ad.block < w.heap.size ∧ w.cell? (ad.add j) = some (.int k (l.getD j 0)) := by
  obtain ⟨ad, e, h1, h2⟩ := h (by intro e; rw [e] at hj; exact absurd hj (Nat.not_lt_zero _))
  exact ⟨ad, e, h1, h2 j hj⟩
theorem Rd.take (h : Rd k w A l) (n : Nat) : Rd k w A (l.take n) := fun hne => by
  obtain ⟨ad, e, h1, h2⟩ := h (by rintro rfl; simp at hne)
  refine ⟨ad, e, h1, fun j hj => ?_⟩
  rw [List.length_take] at hj
  rw [h2 j (by omega), List.getD_eq_getElem?_getD, List.getD_eq_getElem?_getD, List.getElem?_take, if_pos (by omega)]
def dropA (A : Option Addr) (c j : Nat) : Option Addr := if c = j then A else A.map (·.add (j * 1))
theorem Rd.drop (h : Rd k w A l) {n c : Nat} (hc : l.length ≤ c) : Rd k w (dropA A c n) (l.drop n) := fun hne => by
  have hlt : n < l.length := by
    rcases Nat.lt_or_ge n l.length with h | h
    · exact h
    · exact absurd (List.drop_eq_nil_of_le h) hne
  obtain ⟨ad, rfl, h1, h2⟩ := h (by rintro rfl; simp at hne)
  refine ⟨ad.add n, ?_, by rw [add_block]; exact h1, fun j hj => ?_⟩
  · unfold dropA; rw [if_neg (by omega)]; simp
  · rw [List.length_drop] at hj
    rw [add_add, h2 _ (by omega), List.getD_eq_getElem?_getD, List.getD_eq_getElem?_getD, List.getElem?_drop]
theorem dropA_block {c j B : Nat} (h : ∀ ad, A = some ad → ad.block < B) : ∀ ad, dropA A c j = some ad → ad.block < B := by
  intro ad e
  unfold dropA at e
  split at e
  · exact h ad e
  · cases A with
    | none => simp at e
    | some a => simp at e; subst e; rw [add_block]; exact h a rfl
theorem Rd.block {g : Nat} {cs : Array Value} {t : TypeId} {fr : Nat × Nat} (hg : w.heap[g]? = some (.cells cs t fr)) (hc : ∀ j, j < l.length → cs[j]? = some (.int k (l.getD j 0))) : Rd k w (some ⟨g, 0, none⟩) l := fun _ =>
  ⟨_, rfl, (Array.getElem?_eq_some_iff.1 hg).1, fun j hj => by
    have ha : (⟨g, 0, none⟩ : Addr).add j = ⟨g, j, none⟩ := by unfold Addr.add; split <;> simp_all
    rw [ha, cell_of_row _ _ _ _ _ _ hg]; exact hc j hj⟩
end
section
variable {P : Program}
theorem madeCells_one (z : Value) (n : Nat) : madeCells #[z] n = Array.replicate n z := by
  apply Array.ext
  · simp [madeCells]
  · intro i h1 h2
    simp [madeCells, Nat.mod_one]
theorem mk_run (t e : TypeId) (z : Value) (bytes : Nat) (ht : P.underlying t = some (.slice e)) (hinfo : (P.info? e).map (fun i => (i.zero, i.size, i.bytes)) = some (some z, 1, bytes)) (hz1 : z.cells = #[z])
    (kl kc : IntKind) (n : Nat) (hbytes : bytes * n ≤ 281474976710656) (h63 : n ≤ 9223372036854775807) (w : World) :
    (Instr.makeSlice t (.int kl (n : Int)) (.int kc (n : Int))).run P w = .ok (.slice (some ⟨w.heap.size, 0, none⟩) n n) (w.alloc (.cells (Array.replicate n z) e)) := by
  rw [run_make_row' t e z bytes ht hinfo hz1 kl kc n hbytes h63 w, madeCells_one]
theorem sl_take (t e : TypeId) (kl : IntKind) (ht : P.underlying t = some (.slice e)) (hi : (P.info? e).map (·.size) = some 1) (A : Option Addr) (n c k : Nat) (hk : k ≤ c) :
    ∀ W : World, (Instr.slice t (.slice A n c) none (some (.int kl k)) none).run P W = .ok (.slice A k c) W := by
  intro W
  cases hq : P.info? e with
  | none => simp [hq] at hi
  | some i =>
    have hs : i.size = 1 := by simpa [hq] using hi
    have ha : (A.map fun x => x.add 0) = A := by cases A <;> simp [Addr.add]
    simp only [Instr.slice, Sem.run_bind, run_underlying ht, Result.andThen_ok, Instr.sliceBounds, Instr.sliceBound, asIntOf, Sem.run_pure, Option.isSome]
    rw [if_pos ⟨by omega, by omega⟩]
    simp [sizeOf, typeInfo, hq, hs, ha]
theorem sl_drop (t e : TypeId) (kl : IntKind) (ht : P.underlying t = some (.slice e)) (hi : (P.info? e).map (·.size) = some 1) (A : Option Addr) (n c k : Nat) (hk : k ≤ n) :
    ∀ W : World, (Instr.slice t (.slice A n c) (some (.int kl k)) none none).run P W = .ok (.slice (dropA A c k) (n - k) (c - k)) W := by
  intro W
  cases hq : P.info? e with
  | none => simp [hq] at hi
  | some i =>
    have hs : i.size = 1 := by simpa [hq] using hi
    simp only [Instr.slice, Sem.run_bind, run_underlying ht, Result.andThen_ok, Instr.sliceBounds, Instr.sliceBound, asIntOf, Sem.run_pure, Option.isSome]
    rw [if_pos ⟨by omega, by omega⟩]
    simp [sizeOf, typeInfo, hq, hs, dropA]
theorem sl_cut (t e : TypeId) (kl kh km : IntKind) (ht : P.underlying t = some (.slice e)) (hi : (P.info? e).map (·.size) = some 1) (A : Option Addr) (n c l h m : Nat) (xl xh xm : Int) (el : xl = l) (eh : xh = h) (em : xm = m) (h1 : l ≤ h) (h2 : h ≤ m) (h3 : m ≤ c) :
    ∀ W : World, (Instr.slice t (.slice A n c) (some (.int kl xl)) (some (.int kh xh)) (some (.int km xm))).run P W = .ok (.slice (dropA A m l) (h - l) (m - l)) W := by
  intro W
  subst el eh em
  cases hq : P.info? e with
  | none => simp [hq] at hi
  | some i =>
    have hs : i.size = 1 := by simpa [hq] using hi
    simp only [Instr.slice, Sem.run_bind, run_underlying ht, Result.andThen_ok, Instr.sliceBounds, Instr.sliceBound, asIntOf, Sem.run_pure, Option.isSome]
    rw [if_pos ⟨by omega, by omega⟩]
    simp [sizeOf, typeInfo, hq, hs, dropA, h1, h2]
end
end Go.Proofs.YticnjkdaccacaaaGreatDoor.Base
end
section
namespace Go.Proofs.YticnjkdaccacaaaGreatDoor.Own
open Go Go.RowKit Base
structure Chg (F : Nat → Prop) (w w' : World) : Prop where
  os : w'.os = w.os
  tape : w'.tape = w.tape
  output : w'.output = w.output
  size : w.heap.size ≤ w'.heap.size
  block : ∀ k, k < w.heap.size → ¬ F k → w'.heap[k]? = w.heap[k]?
section
variable {F G : Nat → Prop} {w w' w'' : World}
theorem Chg.refl (F : Nat → Prop) (w : World) : Chg F w w := ⟨rfl, rfl, rfl, Nat.le_refl _, fun _ _ _ => rfl⟩
theorem Chg.then (h : Chg F w w') (h' : Chg G w' w'') : Chg (fun k => F k ∨ G k) w w'' :=
  ⟨h'.os.trans h.os, h'.tape.trans h.tape, h'.output.trans h.output, Nat.le_trans h.size h'.size,
    fun k hk hn => (h'.block k (Nat.lt_of_lt_of_le hk h.size) (fun hg => hn (.inr hg))).trans (h.block k hk (fun hf => hn (.inl hf)))⟩
theorem Chg.trans (h : Chg F w w') (h' : Chg G w' w'') (hs : ∀ k, k < w.heap.size → G k → F k) : Chg F w w'' :=
  ⟨h'.os.trans h.os, h'.tape.trans h.tape, h'.output.trans h.output, Nat.le_trans h.size h'.size,
    fun k hk hn => (h'.block k (Nat.lt_of_lt_of_le hk h.size) (fun hg => hn (hs k hk hg))).trans (h.block k hk hn)⟩
theorem Chg.mono (h : Chg F w w') (hs : ∀ k, k < w.heap.size → F k → G k) : Chg G w w' := ⟨h.os, h.tape, h.output, h.size, fun k hk hn => h.block k hk (fun hf => hn (hs k hk hf))⟩
theorem Chg.of_below {B : Nat} (h : Below B w w') : Chg (fun k => B ≤ k) w w' := ⟨h.os, h.tape, h.output, h.size, fun k _ hn => h.block k (Nat.lt_of_not_le hn)⟩
theorem Chg.of_new (h : Below w.heap.size w w') : Chg (fun _ => False) w w' := ⟨h.os, h.tape, h.output, h.size, fun k hk _ => h.block k hk⟩
theorem Chg.of_grown {row : Option Nat} (h : w.grownBy w' row) : Chg (fun k => some k = row) w w' := ⟨h.os, h.tape, h.output, h.size, fun k hk hn => h.block k hk hn⟩
theorem Chg.below {w0 : World} {B : Nat} (h : Below B w0 w) (hc : Chg F w w') (hB : B ≤ w.heap.size) (hF : ∀ k, F k → B ≤ k) : Below B w0 w' :=
  h.trans ⟨hc.os, hc.tape, hc.output, hc.size, fun k hk => hc.block k (Nat.lt_of_lt_of_le hk hB) (fun hf => Nat.not_le.2 hk (hF k hf))⟩
theorem Chg.to_below {B : Nat} (hc : Chg F w w') (hB : B ≤ w.heap.size) (hF : ∀ k, F k → B ≤ k) : Below B w w' := Chg.below (Below.refl B w) hc hB hF
theorem Chg.alloc (w : World) (o : Obj) : Chg (fun _ => False) w (w.alloc o) := ⟨rfl, rfl, rfl, by simp, fun k hk _ => Below.heap_alloc w o k hk⟩
theorem Chg.setCell (w : World) (p : Addr) (u : Value) : Chg (fun k => k = p.block) w (w.setCell p u) := ⟨rfl, rfl, rfl, by simp [World.setCell], fun k _ hn => Below.heap_setCell _ _ _ _ hn⟩
theorem Chg.drew (w : World) : Chg (fun _ => False) w w.drew := ⟨rfl, rfl, rfl, Nat.le_refl _, fun _ _ _ => rfl⟩
end
theorem Rd.chg {k : IntKind} {w w' : World} {A : Option Addr} {l : List Int} {F : Nat → Prop} (h : Rd k w A l) (hc : Chg F w w') (hF : ∀ ad, A = some ad → ¬ F ad.block) : Rd k w' A l := fun hne => by
  obtain ⟨ad, e, h1, h2⟩ := h hne
  refine ⟨ad, e, Nat.lt_of_lt_of_le h1 hc.size, fun j hj => ?_⟩
  rw [World.cell?_of_block (w := w) (by rw [add_block]; exact hc.block _ h1 (hF ad e))]
  exact h2 j hj
def OwnI (k : IntKind) (w : World) (B : Nat) (e : TypeId) (v : Value) (l : List Int) : Prop := w.ownsRow B e 1 v l.length (l.map (Value.int k))
section
variable {k : IntKind} {w w' : World} {B : Nat} {e : TypeId} {v : Value} {l : List Int}
theorem OwnI.nil (k : IntKind) (w : World) (B : Nat) (e : TypeId) : OwnI k w B e (.slice none 0 0) [] := ⟨by simp, .inl ⟨rfl, rfl⟩⟩
theorem OwnI.slice (h : OwnI k w B e v l) : ∃ A c, v = .slice A l.length c ∧ l.length ≤ c ∧ c ≤ maxLen ∧ Rd k w A l ∧ ∀ ad, A = some ad → B ≤ ad.block ∧ ad.block < w.heap.size ∧ ad = ⟨ad.block, 0, none⟩ := by
  rcases h.2 with ⟨rfl, h0⟩ | ⟨g, cap, cur, rfl, hB, hg, h1, h2, h3, h4⟩
  · obtain rfl : l = [] := List.eq_nil_of_length_eq_zero h0
    exact ⟨none, 0, rfl, Nat.le_refl _, Nat.zero_le _, Rd.nil, fun ad e => by cases e⟩
  · refine ⟨_, cap, rfl, h1, h2, Rd.block hg (fun j hj => ?_), fun ad e => ?_⟩
    · have h5 : (cur.toList.take (l.length * 1))[j]? = (l.map (Value.int k))[j]? := by rw [h4]
      rw [List.getElem?_take, if_pos (by omega)] at h5
      have h6 : cur[j]? = cur.toList[j]? := by simp
      rw [h6, h5]
      simp [List.getElem?_eq_getElem hj, List.getD_eq_getElem?_getD]
    · injection e with e; subst e
      exact ⟨hB, (Array.getElem?_eq_some_iff.1 hg).1, rfl⟩
theorem OwnI.kept {F : Nat → Prop} (h : OwnI k w B e v l) (hc : Chg F w w') (hF : ∀ g, v.ownBlock = some g → ¬ F g) : OwnI k w' B e v l := by
  refine ⟨h.1, ?_⟩
  rcases h.2 with hn | ⟨g, cap, cur, rfl, hb, hgg, rest⟩
  · exact .inl hn
  · refine .inr ⟨g, cap, cur, rfl, hb, ?_, rest⟩
    rw [hc.block g (Array.getElem?_eq_some_iff.1 hgg).1 (hF g rfl)]
    exact hgg
theorem OwnI.new (h : OwnI k w B e v l) (hb : Below w.heap.size w w') : OwnI k w' B e v l := h.kept (Chg.of_new hb) (fun _ _ hf => hf)
theorem OwnI.alloc (h : OwnI k w B e v l) (o : Obj) : OwnI k (w.alloc o) B e v l := h.kept (Chg.alloc w o) (fun _ _ hf => hf)
theorem OwnI.lower {B' : Nat} (h : OwnI k w B e v l) (hB : B' ≤ B) : OwnI k w B' e v l := by
  refine ⟨h.1, ?_⟩
  rcases h.2 with hn | ⟨g, cap, cur, rfl, hb, rest⟩
  · exact .inl hn
  · exact .inr ⟨g, cap, cur, rfl, Nat.le_trans hB hb, rest⟩
theorem OwnI.lt (h : OwnI k w B e v l) : ∀ g, v.ownBlock = some g → B ≤ g ∧ g < w.heap.size := World.ownsRow.lt h
theorem OwnI.set {g n c j : Nat} {x : Int} (h : OwnI k w B e (.slice (some ⟨g, 0, none⟩) n c) l) (hj : j < l.length) : OwnI k (w.setCell ⟨g, j, none⟩ (.int k x)) B e (.slice (some ⟨g, 0, none⟩) n c) (l.set j x) := by
  refine ⟨by simp, ?_⟩
  rcases h.2 with ⟨h1, _⟩ | ⟨g', cap, cur, h1, hB, hg, h2, h3, h4, h5⟩
  · cases h1
  · injection h1 with h1 h6 h7
    injection h1 with h1
    injection h1 with h1
    subst h1 h7 h6
    refine .inr ⟨g, c, cur.setIfInBounds j (.int k x), by rw [List.length_set], hB, heap_setCell_same _ _ _ _ _ _ hg, by rw [List.length_set]; exact h2, h3, by rw [Array.size_setIfInBounds]; exact h4, ?_⟩
    rw [List.length_set, Array.toList_setIfInBounds, List.take_set, h5, List.map_set]
theorem OwnI.cell {g n c j : Nat} (h : OwnI k w B e (.slice (some ⟨g, 0, none⟩) n c) l) (hj : j < l.length) : w.cell? ⟨g, j, none⟩ = some (.int k (l.getD j 0)) ∧ w.frozen? ⟨g, j, none⟩ = false ∧ B ≤ g ∧ g < w.heap.size ∧ n = l.length ∧ n ≤ c := by
  rcases h.2 with ⟨h1, _⟩ | ⟨g', cap, cur, h1, hB, hg, h2, h3, h4, h5⟩
  · cases h1
  · injection h1 with h1 h6 h7
    injection h1 with h1
    injection h1 with h1
    subst h1 h7
    refine ⟨?_, frozen_of_row _ _ _ _ _ hg, hB, (Array.getElem?_eq_some_iff.1 hg).1, h6, by omega⟩
    have h8 : (cur.toList.take (l.length * 1))[j]? = (l.map (Value.int k))[j]? := by rw [h5]
    rw [List.getElem?_take, if_pos (by omega)] at h8
    rw [cell_of_row _ _ _ _ _ _ hg]
    have h9 : cur[j]? = cur.toList[j]? := by simp
    rw [h9, h8]
    simp [List.getElem?_eq_getElem hj, List.getD_eq_getElem?_getD]
theorem OwnI.ptr (h : OwnI k w B e v l) (hl : 0 < l.length) : ∃ g c, v = .slice (some ⟨g, 0, none⟩) l.length c := by
  obtain ⟨A, c, rfl, _, _, hr, hA⟩ := h.slice
  obtain ⟨ad, rfl, _⟩ := hr (by intro e; rw [e] at hl; exact absurd hl (Nat.lt_irrefl _))
  exact ⟨ad.block, c, by rw [(hA ad rfl).2.2]⟩
def Sep (v u : Value) : Prop := ∀ g, v.ownBlock = some g → u.ownBlock ≠ some g
theorem Sep.nil (u : Value) : Sep (.slice none 0 0) u := fun g h => by simp [Value.ownBlock] at h
theorem Sep.symm {v u : Value} (h : Sep v u) : Sep u v := fun g h1 h2 => h g h2 h1
theorem Sep.grow {v u v' : Value} {n : Nat} (h : Sep v u) (hv : v'.ownBlock = v.ownBlock ∨ ∃ g, v'.ownBlock = some g ∧ n ≤ g) (hu : ∀ g, u.ownBlock = some g → g < n) : Sep v' u := by
  intro g h1 h2
  rcases hv with hv | ⟨g', h3, h4⟩
  · rw [hv] at h1; exact h g h1 h2
  · rw [h1] at h3; injection h3 with h3; subst h3; exact Nat.not_le.2 (hu g h2) h4
theorem OwnI.other {u : Value} {m : List Int} (h : OwnI k w B e u m) (hc : Chg (fun k => some k = v.ownBlock) w w') (hs : Sep v u) : OwnI k w' B e u m :=
  h.kept hc fun g hg hf => hs g hf.symm hg
theorem OwnI.made (w : World) (k : IntKind) (l : List Int) (e : TypeId) (cs : Array Value) (hcs : cs = (l.map (Value.int k)).toArray) (hB : B ≤ w.heap.size) (hl : l.length ≤ maxLen) :
    OwnI k (w.alloc (.cells cs e)) B e (.slice (some ⟨w.heap.size, 0, none⟩) l.length l.length) l := by
  refine ⟨by simp, .inr ⟨_, _, cs, rfl, hB, heap_alloc_new _ _, Nat.le_refl _, hl, by subst hcs; simp, ?_⟩⟩
  subst hcs
  rw [Nat.mul_one]
  exact List.take_of_length_le (by simp)
end
section
variable {P : Program} {w : World} {k : IntKind} {B : Nat} {e : TypeId} {v : Value} {l : List Int}
theorem ap_run (t ty : TypeId) (z : Value) (bytes : Nat) (ht : P.underlying t = some (.slice e)) (hinfo : (P.info? e).map (fun i => (i.zero, i.size, i.bytes)) = some (some z, 1, bytes)) (hz : z.cells.size = 1)
    (hown : OwnI k w B e v l) (X : Option Addr) (n c : Nat) (news : List Int) (hn : news.length = n) (hX : Rd k w X news) (hXn : X = none → n = 0) (h63 : l.length + n ≤ maxLen) (hb : (l.length + n) * bytes ≤ 140737488355328) (hbase : B ≤ w.heap.size) :
    ∃ v' w', (Builtin.append_ #[t, t] ty #[v, .slice X n c]).run P w = .ok v' w' ∧ OwnI k w' B e v' (l ++ news) ∧ w.grownBy w' v.ownBlock ∧ (v'.ownBlock = v.ownBlock ∨ v'.ownBlock = some w.heap.size) := by
  obtain ⟨i, hi, hzz⟩ := Option.map_eq_some_iff.1 hinfo
  simp only [Prod.mk.injEq] at hzz
  obtain ⟨hz0, hs, hby⟩ := hzz
  subst hn
  cases X with
  | some ad =>
    obtain ⟨v', w', h1, h2, h3, _, h5⟩ := run_append_own_at (P := P) w B t ty e i z 1 bytes ht hi hz0 hs hby hz (by omega) v l.length (l.map (Value.int k)) hown ad news.length c (news.map (Value.int k)) (by simp)
      (fun j u hu => by
        have hj : j < news.length := by
          have := (List.getElem?_eq_some_iff.1 hu).1; simpa using this
        obtain ⟨ad', e', _, hc⟩ := hX.cell hj
        cases e'
        rw [hc, ← hu]
        simp [List.getElem?_eq_getElem hj, List.getD_eq_getElem?_getD])
      (fun u hu => by obtain ⟨x, _, rfl⟩ := List.mem_map.1 hu; rfl) h63 hb hbase
    refine ⟨v', w', h1, ?_, h3, h5⟩
    unfold OwnI
    rw [List.length_append, List.map_append]
    exact h2
  | none =>
    obtain rfl : news = [] := List.eq_nil_of_length_eq_zero (hXn rfl)
    obtain ⟨A, c', rfl, h1, h2, _⟩ := hown.slice
    refine ⟨_, w, ?_, by rw [List.append_nil]; exact hown, ⟨rfl, rfl, rfl, Nat.le_refl _, fun _ _ _ => rfl⟩, .inl rfl⟩
    simp only [Builtin.append_, Sem.run_bind, run_underlying ht, Result.andThen_ok]
    have hu : ((TypeDesc.slice e) matches .int _) = false := rfl
    simp [sizeOf, typeInfo, hi, hs, Builtin.lenOf, h1, Builtin.firstCells, run_underlying ht]
    cases A <;> simp [storeCells]
structure RowTy (P : Program) (t e : TypeId) (k : IntKind) : Prop where
  ht : P.underlying t = some (.slice e)
  hi : ∃ bytes, bytes ≤ 8 ∧ (P.info? e).map (fun i => (i.zero, i.size, i.bytes)) = some (some (.int k 0), 1, bytes)
theorem ap_wp {w0 : World} {K : Act → World → Prop} {Q : Exit → Act → World → Prop} {o : Oper} {a : Act} {t : TypeId} (T : RowTy P t e k) (bd : Below w0.heap.size w0 w) (hown : OwnI k w w0.heap.size e v l) {X : Option Addr} {news : List Int} (hX : Rd k w X news) (hXn : X = none → news = [])
    (hb : l.length + news.length ≤ 17592186044416) (s x : Operand) (n c : Nat) (ho : o.op = .call { callee := .builtin .append, args := #[s, x], argTypes := #[t, t] }) (hs : a.eval s = v) (hx : a.eval x = .slice X n c) (hn : news.length = n)
    (h : ∀ v' w', OwnI k w' w0.heap.size e v' (l ++ news) → Below w0.heap.size w0 w' → w.grownBy w' v.ownBlock → (v'.ownBlock = v.ownBlock ∨ v'.ownBlock = some w.heap.size) → K (a.put o.dst v') w') : Oper.wp P o a w K Q := by
  obtain ⟨bytes, hle, hinfo⟩ := T.hi
  subst hn
  have hmul : (l.length + news.length) * bytes ≤ (l.length + news.length) * 8 := Nat.mul_le_mul_left _ hle
  obtain ⟨v', w', hr, h2, h3, h4⟩ := ap_run (P := P) t o.type (.int k 0) bytes T.ht hinfo rfl hown X news.length c news rfl hX (fun e => by rw [hXn e]; rfl) (by unfold maxLen; omega) (by omega) bd.size
  unfold Oper.wp execOp
  simp only [ho, resolve, invoke, builtin, Sem.run_bind, Sem.run_pure, Result.andThen_ok, List.map_toArray, List.map_cons, List.map_nil, hs, hx, hr]
  exact h v' w' h2 (bd.grown h3 bd.size fun k hk => (hown.lt k hk).1) h3 h4
theorem ap_list {w0 : World} {ops : Array Oper} {rest : List Oper} {Q : Exit → Act → World → Prop} {o : Oper} {a : Act} {t : TypeId} (hgd : o.guard = none) (T : RowTy P t e k) (bd : Below w0.heap.size w0 w) (hown : OwnI k w w0.heap.size e v l) {X : Option Addr} {news : List Int} (hX : Rd k w X news) (hXn : X = none → news = [])
    (hb : l.length + news.length ≤ 17592186044416) (s x : Operand) (n c : Nat) (ho : o.op = .call { callee := .builtin .append, args := #[s, x], argTypes := #[t, t] }) (hs : a.eval s = v) (hx : a.eval x = .slice X n c) (hn : news.length = n)
    (h : ∀ v' w', OwnI k w' w0.heap.size e v' (l ++ news) → Below w0.heap.size w0 w' → w.grownBy w' v.ownBlock → (v'.ownBlock = v.ownBlock ∨ v'.ownBlock = some w.heap.size) → wpList P ops Q rest (a.put o.dst v') w') : wpList P ops Q (o :: rest) a w :=
  wpList_plain hgd fun _ hK => ap_wp T bd hown hX hXn hb s x n c ho hs hx hn fun v' w' h1 h2 h3 h4 => hK _ _ (h v' w' h1 h2 h3 h4)
theorem Rd.lit (w : World) (k : IntKind) (l : List Int) (cs : Array Value) (t : TypeId) (fr : Nat × Nat) (hc : cs = (l.map (Value.int k)).toArray) : Rd k (w.alloc (.cells cs t fr)) (some ⟨w.heap.size, 0, none⟩) l := by
  refine Rd.block (heap_alloc_new _ _) (fun j hj => ?_)
  subst hc
  simp [List.getElem?_eq_getElem hj, List.getD_eq_getElem?_getD]
theorem ap_lit {w0 : World} {ops : Array Oper} {rest : List Oper} {Q : Exit → Act → World → Prop} {o : Oper} {a : Act} {t t' : TypeId} {cs : Array Value} (hgd : o.guard = none) (T : RowTy P t e k) (bd : Below w0.heap.size w0 w) (hown : OwnI k w w0.heap.size e v l) (news : List Int) (hcs : cs = (news.map (Value.int k)).toArray)
    (hb : l.length + news.length ≤ 17592186044416) (s x : Operand) (n c : Nat) (ho : o.op = .call { callee := .builtin .append, args := #[s, x], argTypes := #[t, t] }) (hs : a.eval s = v) (hx : a.eval x = .slice (some ⟨w.heap.size, 0, none⟩) n c) (hn : news.length = n)
    (h : ∀ v' w', OwnI k w' w0.heap.size e v' (l ++ news) → Below w0.heap.size w0 w' → Chg (fun k => some k = v.ownBlock) w w' → (v'.ownBlock = v.ownBlock ∨ ∃ g, v'.ownBlock = some g ∧ w.heap.size ≤ g) → wpList P ops Q rest (a.put o.dst v') w') : wpList P ops Q (o :: rest) a (w.alloc (.cells cs t')) :=
  ap_list hgd T (bd.alloc bd.size _) (hown.alloc _) (Rd.lit w k news cs t' (0, 0) hcs) (fun e => by cases e) hb s x n c ho hs hx hn fun v' w' h1 h2 h3 h4 =>
    h v' w' h1 h2 (((Chg.alloc w _).then (Chg.of_grown h3)).mono (fun k _ hf => hf.elim False.elim id)) (h4.imp id fun e => ⟨_, e, by simp⟩)
theorem ap_lit_wp {w0 : World} {K : Act → World → Prop} {Q : Exit → Act → World → Prop} {o : Oper} {a : Act} {t t' : TypeId} {cs : Array Value} (T : RowTy P t e k) (bd : Below w0.heap.size w0 w) (hown : OwnI k w w0.heap.size e v l) (news : List Int) (hcs : cs = (news.map (Value.int k)).toArray)
    (hb : l.length + news.length ≤ 17592186044416) (s x : Operand) (n c : Nat) (ho : o.op = .call { callee := .builtin .append, args := #[s, x], argTypes := #[t, t] }) (hs : a.eval s = v) (hx : a.eval x = .slice (some ⟨w.heap.size, 0, none⟩) n c) (hn : news.length = n)
    (h : ∀ v' w', OwnI k w' w0.heap.size e v' (l ++ news) → Below w0.heap.size w0 w' → Chg (fun k => some k = v.ownBlock) w w' → (v'.ownBlock = v.ownBlock ∨ ∃ g, v'.ownBlock = some g ∧ w.heap.size ≤ g) → K (a.put o.dst v') w') : Oper.wp P o a (w.alloc (.cells cs t')) K Q :=
  ap_wp T (bd.alloc bd.size _) (hown.alloc _) (Rd.lit w k news cs t' (0, 0) hcs) (fun e => by cases e) hb s x n c ho hs hx hn fun v' w' h1 h2 h3 h4 =>
    h v' w' h1 h2 (((Chg.alloc w _).then (Chg.of_grown h3)).mono (fun k _ hf => hf.elim False.elim id)) (h4.imp id fun e => ⟨_, e, by simp⟩)
theorem copy_run {g c : Nat} (dT sT ty elem : TypeId) (hu : P.underlying dT = some (.slice elem)) (hs : (P.info? elem).map (·.size) = some 1) (h : OwnI k w B e (.slice (some ⟨g, 0, none⟩) l.length c) l) (off : Nat) (D : Option Addr) (dLen dCap : Nat) (X : Option Addr) (sLen sCap : Nat) (src : List Int)
    (hD : src ≠ [] → D = some ⟨g, off, none⟩) (hX : Rd k w X src) (hn : src.length = Nat.min sLen dLen) (hfit : off + src.length ≤ l.length) :
    ∃ w', (Builtin.copy_ #[dT, sT] ty #[.slice D dLen dCap, .slice X sLen sCap]).run P w = .ok (goInt src.length) w' ∧ OwnI k w' B e (.slice (some ⟨g, 0, none⟩) l.length c) (splice l off src) ∧ Chg (fun k => k = g) w w' := by
  by_cases h0 : src = []
  · subst h0
    refine ⟨w, run_copy_none w dT sT ty elem D X dLen dCap sLen sCap hu hs (by simpa using hn.symm), ?_, Chg.refl _ _⟩
    have : splice l off ([] : List Int) = l := by simp [splice]
    rw [this]; exact h
  · obtain rfl := hD h0
    obtain ⟨ad, rfl, h1, h2⟩ := hX h0
    rcases h.2 with ⟨h3, _⟩ | ⟨g', cap, cur, h3, hB, hg, h4, h5, h6, h7⟩
    · cases h3
    · injection h3 with h3 h8 h9
      injection h3 with h3
      injection h3 with h3
      subst h3 h9
      have hr := run_copy_row (P := P) w dT sT ty elem g off dLen dCap ad sLen sCap cur e (src.map (Value.int k)) hu hs hg (by rw [List.length_map]; exact hn) (fun j v hj => by
        have hjl : j < src.length := by
          rcases Nat.lt_or_ge j src.length with h | h
          · exact h
          · simp [List.getElem?_eq_none (show (src.map (Value.int k)).length ≤ j by simpa using h)] at hj
        rw [h2 j hjl]
        simp [List.getElem?_eq_getElem hjl] at hj
        subst hj
        simp [List.getD, List.getElem?_eq_getElem hjl]) (by rw [List.length_map]; omega) (fun v hv => by obtain ⟨x, _, rfl⟩ := List.mem_map.1 hv; rfl)
      rw [List.length_map] at hr
      have hsz : off + src.length ≤ cur.toList.length := by simp; omega
      refine ⟨_, hr, ⟨by simp, .inr ⟨g, c, _, by rw [length_splice _ _ _ hfit], hB, setRow_heap w g cur _ e _ hg, by rw [length_splice _ _ _ hfit]; exact h4, h5, ?_, ?_⟩⟩, ⟨rfl, rfl, rfl, by simp [World.setRow], fun j hj hn' => setRow_other w g j _ hn'⟩⟩
      · simp; omega
      · rw [length_splice _ _ _ hfit, Nat.mul_one]
        have h7' : cur.toList.take l.length = l.map (Value.int k) := by rw [← h7, Nat.mul_one]
        simp only [splice, List.map_append, List.map_take, List.map_drop]
        rw [← h7']
        simp only [List.take_append, List.length_take, List.length_append, List.length_map, List.length_drop, List.append_assoc, List.take_take, List.drop_take]
        rw [show min l.length off = off by omega, show min off cur.toList.length = off by omega, List.take_of_length_le (l := List.map (Value.int k) src) (by rw [List.length_map]; omega), show l.length - off - src.length = l.length - (off + src.length) by omega, show min off l.length = off by omega]
theorem copy_list {ops : Array Oper} {rest : List Oper} {Q : Exit → Act → World → Prop} {o : Oper} {a : Act} {g c : Nat} (hgd : o.guard = none) (d s : Operand) (dT sT elem : TypeId) (ho : o.op = .call { callee := .builtin .copy, args := #[d, s], argTypes := #[dT, sT] })
    (hu : P.underlying dT = some (.slice elem)) (hs : (P.info? elem).map (·.size) = some 1) (h : OwnI k w B e (.slice (some ⟨g, 0, none⟩) l.length c) l) (off : Nat) (D : Option Addr) (dLen dCap : Nat) (X : Option Addr) (sLen sCap : Nat) (src : List Int)
    (hd : a.eval d = .slice D dLen dCap) (hss : a.eval s = .slice X sLen sCap)
    (hD : src ≠ [] → D = some ⟨g, off, none⟩) (hX : Rd k w X src) (hn : src.length = Nat.min sLen dLen) (hfit : off + src.length ≤ l.length)
    (hK : ∀ w', OwnI k w' B e (.slice (some ⟨g, 0, none⟩) l.length c) (splice l off src) → Chg (fun k => k = g) w w' → wpList P ops Q rest (a.put o.dst (goInt src.length)) w') : wpList P ops Q (o :: rest) a w := by
  obtain ⟨w', hr, h1, h2⟩ := copy_run (P := P) dT sT o.type elem hu hs h off D dLen dCap X sLen sCap src hD hX hn hfit
  refine wpList_plain hgd fun K hK' => ?_
  unfold Oper.wp
  simp [execOp, ho, resolve, invoke, builtin, hd, hss, hr, Result.andThen]
  exact hK' _ _ (hK w' h1 h2)
theorem copy_list_m {ops : Array Oper} {rest : List Oper} {Q : Exit → Act → World → Prop} {o : Oper} {a : Act} {g c m : Nat} (hm : l.length = m) (hgd : o.guard = none) (d s : Operand) (dT sT elem : TypeId) (ho : o.op = .call { callee := .builtin .copy, args := #[d, s], argTypes := #[dT, sT] })
    (hu : P.underlying dT = some (.slice elem)) (hs : (P.info? elem).map (·.size) = some 1) (h : OwnI k w B e (.slice (some ⟨g, 0, none⟩) m c) l) (off : Nat) (D : Option Addr) (dLen dCap : Nat) (X : Option Addr) (sLen sCap : Nat) (src : List Int)
    (hd : a.eval d = .slice D dLen dCap) (hss : a.eval s = .slice X sLen sCap)
    (hD : src ≠ [] → D = some ⟨g, off, none⟩) (hX : Rd k w X src) (hn : src.length = Nat.min sLen dLen) (hfit : off + src.length ≤ m)
    (hK : ∀ w', OwnI k w' B e (.slice (some ⟨g, 0, none⟩) m c) (splice l off src) → Chg (fun k => k = g) w w' → wpList P ops Q rest (a.put o.dst (goInt src.length)) w') : wpList P ops Q (o :: rest) a w := by
  subst hm
  exact copy_list hgd d s dT sT elem ho hu hs h off D dLen dCap X sLen sCap src hd hss hD hX hn hfit hK
end
end Go.Proofs.YticnjkdaccacaaaGreatDoor.Own
end
section
namespace Go.Proofs.YticnjkdaccacaaaGreatDoor.Sums
open Go.RowKit Crc Base _root_.Go.Proofs.YticnjkdaccacaaaGreatDoor.Own
theorem on1 (n : BitVec 32) (w : World) :
    Calls Tryz.prog 250 #[.int .u32 (num n)] w fun e w' => e = .returned (.int .u32 (num (stps 8 n))) ∧ w = w' := by
  go_enter Tryz.func250, Tryz.ntmps250
  go_wp2
  go_loop [0, 3] (fun v i => ∃ (k : Nat) (x : BitVec 32), k ≤ 8 ∧ i = .int .i64 k ∧ v = .int .u32 (num x) ∧ stps (8 - k) x = stps 8 n) (fun _ i => 8 - (intOf i).toNat)
  case atStart => exact ⟨0, n, by omega, rfl, rfl, rfl⟩
  case round =>
    obtain ⟨k, x, hk, rfl, rfl, hx⟩ := hrel
    have HX := Lib.hid hx
    clear hx
    go_wp2
    · go_round
      case rel =>
        have hk' : k < 8 := by omega
        exact ⟨k + 1, stp x, by omega, by go_num, by rw [stp_walk], by rw [← HX.out, show 8 - k = (8 - (k + 1)) + 1 by omega]; rfl⟩
      case measure => simp [intOf]; omega
    · go_ret
      have hk' : k = 8 := by omega
      subst hk'
      exact ⟨by rw [← HX.out]; rfl, rfl⟩
theorem on1' (k : Int) (h0 : 0 ≤ k) (h1 : k < 4294967296) (w : World) :
    Calls Tryz.prog 250 #[.int .u32 k] w fun e w' => e = .returned (.int .u32 (num (stps 8 (BitVec.ofInt 32 k)))) ∧ w = w' := by
  have h := on1 (BitVec.ofInt 32 k) w
  rwa [num_of h0 h1] at h
def tbl (i : Nat) : Value := .int .u32 (num (stps 8 (BitVec.ofInt 32 (i : Int))))
def cells (k : Nat) : Array Value := ((List.range 256).map fun i => if i < k then tbl i else .int .u32 0).toArray
theorem zeroT (w : World) : (zeroValue 329).run Tryz.prog w = .ok (.agg (cells 0)) w := by kernel_rfl
theorem cells_get (k j : Nat) (hj : j < 256) : (cells k)[j]? = some (if j < k then tbl j else .int .u32 0) := by
  simp [cells, hj]
theorem cells_size (k : Nat) : (cells k).size = 256 := by simp [cells]
theorem cells_one : ((cells 256).all fun x => x.oneCell') = true := by
  rw [Array.all_eq_true]
  intro i hi
  rw [cells_size] at hi
  have h := cells_get 256 i hi
  rw [Array.getElem?_eq_getElem (by rw [cells_size]; exact hi), if_pos hi] at h
  injection h with h
  rw [h]; rfl
theorem cells_set (k : Nat) (hk : k < 256) : (cells k).setIfInBounds k (tbl k) = cells (k + 1) := by
  apply Array.ext_getElem?
  intro i
  rw [Array.getElem?_setIfInBounds, cells_size]
  by_cases hi : i < 256
  · rw [cells_get _ _ hi, cells_get _ _ hi]
    by_cases e : k = i
    · subst e; simp [hk]
    · rw [if_neg e]
      congr 1
      by_cases h : i < k
      · rw [if_pos h, if_pos (by omega)]
      · rw [if_neg h, if_neg (by omega)]
  · have h1 : (cells k)[i]? = none := by rw [Array.getElem?_eq_none_iff, cells_size]; omega
    have h2 : (cells (k + 1))[i]? = none := by rw [Array.getElem?_eq_none_iff, cells_size]; omega
    rw [h1, h2, if_neg (by omega)]
set_option maxRecDepth 100000 in
theorem table (w : World) :
    Calls Tryz.prog 249 #[.func (.func 250) #[] #[]] w fun e w' => e = .returned (.agg (cells 256)) ∧ Below w.heap.size w w' := by
  have hz := zeroT
  go_enter Tryz.func249, Tryz.ntmps249
  go_wp2
  go_loopw [4] (fun i wr => ∃ k : Nat, k ≤ 256 ∧ i = .int .i64 k ∧ Below w.heap.size w wr ∧ wr.heap[w.heap.size]? = some (.cells (cells k) 329 (0, 0))) (fun i _ => 256 - (intOf i).toNat)
  case atStart => exact ⟨0, by omega, rfl, (Below.refl _ _).alloc (Nat.le_refl _) _, heap_alloc_new _ _⟩
  case round =>
    clear hz
    obtain ⟨k, hk, rfl, hb, hg⟩ := hrel
    by_cases hlt : k < 256
    · go_wp2_with fail
      refine (on1' _ (by omega) (by omega) _).mono ?_
      rintro e w' ⟨rfl, rfl⟩
      have hc : wr.cell? ⟨w.heap.size, k, none⟩ = some (.int .u32 0) := by rw [cell_of_row _ _ _ _ _ _ hg, cells_get _ _ hlt, if_neg (by omega)]
      have hf : wr.frozen? ⟨w.heap.size, k, none⟩ = false := frozen_of_row _ _ _ _ _ hg
      have HG := Lib.hid hg
      clear hg
      go_wp2
      go_roundw
      case rel => exact ⟨k + 1, by omega, by go_num, hb.setCell (Nat.le_refl _) _, by rw [heap_setCell_same _ _ _ _ _ _ HG.out]; rw [← cells_set k hlt]; rfl⟩
      case measure => simp [intOf]; omega
    · obtain rfl : k = 256 := by omega
      have hsz : (Tryz.prog.info? 329).map (·.size) = some (cells 256).size := by rw [cells_size]; kernel_rfl
      go_wp2_with (first | (refine wpList_load_row rfl 329 _ rfl _ rfl _ _ _ _ hg Tryz.underlying329 rfl hsz ?_) | (refine wpList_store_row rfl 329 _ _ rfl _ _ rfl rfl _ _ hg hsz rfl cells_one ?_))
      refine bodyPost_ret (results_cell_row rfl _ _ _ _ (cells 256) (0, 0) _ rfl (setRow_heap _ _ _ _ _ _ hg) Tryz.underlying329 rfl hsz) rfl ⟨rfl, ?_⟩
      exact hb.trans ⟨rfl, rfl, rfl, by simp, fun i hi => setRow_other _ _ _ _ (by omega)⟩
set_option maxRecDepth 100000 in
theorem on_nil_any (s : BitVec 32) (A : Option Addr) (c : Nat) (w : World) :
    Calls Tryz.prog 213 #[.int .u32 (num s), .slice A 0 c] w fun e w' => e = .returned (.int .u32 (num s)) ∧ Below w.heap.size w w' := by
  go_enter Tryz.func213, Tryz.ntmps213
  go_wp2
  go_ret
  exact ⟨rfl, Below.refl _ _⟩
def Bts (l : List Int) : Prop := ∀ x ∈ l, 0 ≤ x ∧ x < 256
theorem Bts.take {l : List Int} (h : Bts l) (k : Nat) : Bts (l.take k) := fun x hx => h x (List.mem_of_mem_take hx)
theorem Bts.drop {l : List Int} (h : Bts l) (k : Nat) : Bts (l.drop k) := fun x hx => h x (List.mem_of_mem_drop hx)
theorem Bts.append {l m : List Int} (h : Bts l) (h' : Bts m) : Bts (l ++ m) := fun x hx => (List.mem_append.1 hx).elim (h x) (h' x)
theorem Bts.getD {l : List Int} (h : Bts l) {j : Nat} (hj : j < l.length) : 0 ≤ l.getD j 0 ∧ l.getD j 0 < 256 := by
  rw [List.getD_eq_getElem?_getD, List.getElem?_eq_getElem hj]; exact h _ (List.getElem_mem hj)
set_option maxRecDepth 100000 in
theorem on_any (s : BitVec 32) (A : Option Addr) (c : Nat) (l : List Int) (w : World) (hl : l.length ≤ 9223372036854775807) (hb : Bts l) (hr : Rd .u8 w A l) :
    Calls Tryz.prog 213 #[.int .u32 (num s), .slice A l.length c] w fun e w' => e = .returned (.int .u32 (num (on s l))) ∧ Below w.heap.size w w' := by
  by_cases h0 : l = []
  · subst h0; rw [on_nil]; exact on_nil_any s A c w
  obtain ⟨ad, rfl, hb0, hc⟩ := hr h0
  obtain ⟨b, o, sp⟩ := ad
  have hb1 : b < w.heap.size := hb0
  have hpos : 0 < l.length := List.length_pos_iff.2 h0
  have hne : ((l.length : Int) == 0) = false := by rw [beq_eq_false_iff_ne]; omega
  have HC := Lib.hid hc
  have HB := Lib.hid hb
  clear hc hb h0
  have hz := zeroT
  have HW : w.heap.size ≤ w.heap.size := Nat.le_refl _
  have hsz : (Tryz.prog.info? 329).map (·.size) = some (cells 256).size := by rw [cells_size]; kernel_rfl
  go_enter Tryz.func213, Tryz.ntmps213
  go_wp2_with fail
  refine (table _).mono ?_
  rintro e w1 ⟨rfl, hq1⟩
  have hb2 : Below w.heap.size w (w1.alloc (.cells (cells 0) 329)) := hq1.alloc hq1.size _
  have hg2 : (w1.alloc (.cells (cells 0) 329)).heap[w1.heap.size]? = some (.cells (cells 0) 329 (0, 0)) := heap_alloc_new _ _
  have hs1 := hq1.size
  have HB1 := Lib.hid hq1
  have HS := Lib.hid hsz
  clear hq1 hsz
  have hsg : IntKind.u32.signed = false := rfl
  have hun := bits_not
  go_wp2_with (first | (refine wpList_store_row rfl 329 _ _ rfl _ _ rfl rfl _ _ hg2 HS.out rfl cells_one ?_))
  have hb3 : Below w.heap.size w ((w1.alloc (.cells (cells 0) 329)).setRow w1.heap.size (cells 256)) :=
    hb2.trans ⟨rfl, rfl, rfl, by simp, fun i hi => setRow_other _ _ _ _ (by omega)⟩
  have hg3 := setRow_heap _ _ _ (cells 256) _ _ hg2
  generalize (w1.alloc (.cells (cells 0) 329)).setRow w1.heap.size (cells 256) = w3 at hb3 hg3 ⊢
  clear hg2 hb2 HB1 HS hz HW
  have HG := Lib.hid hg3
  have H3 := Lib.hid hb3
  clear hg3 hb3
  go_loop [6, 18] (fun v i => ∃ (k : Nat) (x : BitVec 32), k ≤ l.length ∧ i = .int .i64 k ∧ v = .int .u32 (num x) ∧ x = raw (~~~ s) (l.take k)) (fun _ i => l.length - (intOf i).toNat)
  case atStart => exact ⟨0, _, by omega, rfl, rfl, rfl⟩
  case round =>
    obtain ⟨k, x, hk, rfl, rfl, hx⟩ := hrel
    have HX := Lib.hid hx
    clear hx
    by_cases hlt : k < l.length
    · have hc3 : w3.cell? ((⟨b, o, sp⟩ : Addr).add k) = some (.int .u8 (l.getD k 0)) := by
        rw [H3.out.cell (p := (⟨b, o, sp⟩ : Addr).add k) (by rw [add_block]; exact hb1)]; exact HC.out k hlt
      obtain ⟨y, hy⟩ : ∃ y, y = l.getD k 0 := ⟨_, rfl⟩
      rw [← hy] at hc3
      have hyr : 0 ≤ y ∧ y < 256 := by rw [hy]; exact HB.out.getD hlt
      have hy0 := hyr.1
      have hy1 := hyr.2
      have HY := Lib.hid hy
      clear hy hyr
      have hj := bits_ix x y hy0 hy1
      have hj0 := (ix_range x y).1
      have hj1 := (ix_range x y).2
      have hcj : w3.cell? ⟨w1.heap.size, (num (ix x y)).toNat, none⟩ = some (.int .u32 (num (stps 8 (ix x y)))) := by
        rw [cell_of_row _ _ _ _ _ _ HG.out, cells_get _ _ (by omega), if_pos (by omega)]
        unfold tbl
        rw [Int.toNat_of_nonneg hj0, of_num]
      have hbw := byt_walk x y hy0 hy1
      go_wp2
      go_round
      case rel => exact ⟨k + 1, byt x y, by omega, by go_num, rfl, by rw [HX.out, HY.out, List.take_succ_eq_append_getElem hlt, raw_append, List.getD_eq_getElem?_getD, List.getElem?_eq_getElem hlt]; rfl⟩
      case measure => simp [intOf]; omega
    · obtain rfl : k = l.length := by omega
      go_wp2
      go_ret
      exact ⟨by rw [HX.out, List.take_length]; rfl, H3.out⟩
set_option maxRecDepth 100000 in
theorem of_any (A : Option Addr) (c : Nat) (l : List Int) (w : World) (hl : l.length ≤ 9223372036854775807) (hb : Bts l) (hr : Rd .u8 w A l) :
    Calls Tryz.prog 214 #[.slice A l.length c] w fun e w' => e = .returned (.int .u32 (num (on 0#32 l))) ∧ Below w.heap.size w w' := by
  go_enter Tryz.func214, Tryz.ntmps214
  go_wp2_with fail
  refine (on_any 0#32 A c l w hl hb hr).mono ?_
  rintro e w1 ⟨rfl, hb⟩
  go_wp2
  go_ret
  exact ⟨rfl, hb⟩
theorem on_from {w0 w : World} (hw : Below w0.heap.size w0 w) (s : BitVec 32) (A : Option Addr) (c n : Nat) (l : List Int) (hn : l.length = n) (hl : n ≤ 9223372036854775807) (hb : Bts l) (hr : Rd .u8 w0 A l) :
    Calls Tryz.prog 213 #[.int .u32 (num s), .slice A n c] w fun e w' => e = .returned (.int .u32 (num (on s l))) ∧ Below w0.heap.size w0 w' := by
  subst hn
  exact (on_any s A c l w hl hb (hr.below hw)).mono fun e w' ⟨he, h⟩ => ⟨he, hw.trans (below_weak hw.size h)⟩
theorem of_from {w0 w : World} (hw : Below w0.heap.size w0 w) (A : Option Addr) (c n : Nat) (l : List Int) (hn : l.length = n) (hl : n ≤ 9223372036854775807) (hb : Bts l) (hr : Rd .u8 w0 A l) :
    Calls Tryz.prog 214 #[.slice A n c] w fun e w' => e = .returned (.int .u32 (num (on 0#32 l))) ∧ Below w0.heap.size w0 w' := by
  subst hn
  exact (of_any A c l w hl hb (hr.below hw)).mono fun e w' ⟨he, h⟩ => ⟨he, hw.trans (below_weak hw.size h)⟩
theorem rd_lit (w1 : World) (l : List Int) (cs : Array Value) (t : TypeId) (fr : Nat × Nat) (hc : cs = (l.map (Value.int .u8)).toArray) : Rd .u8 (w1.alloc (.cells cs t fr)) (some ⟨w1.heap.size, 0, none⟩) l := by
  refine Rd.block (heap_alloc_new _ _) (fun j hj => ?_)
  subst hc
  simp [List.getElem?_eq_getElem hj, List.getD_eq_getElem?_getD]
theorem on_lit {w0 w1 : World} (hw : Below w0.heap.size w0 w1) (s : BitVec 32) (l : List Int) (cs : Array Value) (t : TypeId) (fr : Nat × Nat) (n c : Nat) (hc : cs = (l.map (Value.int .u8)).toArray) (hn : l.length = n) (hl : n ≤ 9223372036854775807) (hb : Bts l) :
    Calls Tryz.prog 213 #[.int .u32 (num s), .slice (some ⟨w1.heap.size, 0, none⟩) n c] (w1.alloc (.cells cs t fr)) fun e w' => e = .returned (.int .u32 (num (on s l))) ∧ Below w0.heap.size w0 w' := by
  subst hn
  have h2 : Below w0.heap.size w0 (w1.alloc (.cells cs t fr)) := hw.alloc hw.size _
  exact (on_any s _ c l _ hl hb (rd_lit w1 l cs t fr hc)).mono fun e w' ⟨he, h⟩ => ⟨he, h2.trans (below_weak h2.size h)⟩
theorem of_lit {w0 w1 : World} (hw : Below w0.heap.size w0 w1) (l : List Int) (cs : Array Value) (t : TypeId) (fr : Nat × Nat) (n c : Nat) (hc : cs = (l.map (Value.int .u8)).toArray) (hn : l.length = n) (hl : n ≤ 9223372036854775807) (hb : Bts l) :
    Calls Tryz.prog 214 #[.slice (some ⟨w1.heap.size, 0, none⟩) n c] (w1.alloc (.cells cs t fr)) fun e w' => e = .returned (.int .u32 (num (on 0#32 l))) ∧ Below w0.heap.size w0 w' := by
  subst hn
  have h2 : Below w0.heap.size w0 (w1.alloc (.cells cs t fr)) := hw.alloc hw.size _
  exact (of_any _ c l _ hl hb (rd_lit w1 l cs t fr hc)).mono fun e w' ⟨he, h⟩ => ⟨he, h2.trans (below_weak h2.size h)⟩
theorem of_own {w0 w : World} {e : TypeId} {v : Value} {l : List Int} (bd : Below w0.heap.size w0 w) (hown : OwnI .u8 w w0.heap.size e v l) (hb : Bts l) (hl : l.length ≤ 9223372036854775807) :
    Calls Tryz.prog 214 #[v] w fun r w' => r = .returned (.int .u32 (num (on 0#32 l))) ∧ Below w0.heap.size w0 w' ∧ Below w.heap.size w w' := by
  obtain ⟨C, cc, rfl, _, _, hr, _⟩ := hown.slice
  exact (of_any C cc l w hl hb hr).mono fun r w' ⟨h1, h2⟩ => ⟨h1, bd.trans (below_weak bd.size h2), h2⟩
theorem on_own {w0 w : World} {e : TypeId} {v : Value} {l : List Int} (bd : Below w0.heap.size w0 w) (s : BitVec 32) (hown : OwnI .u8 w w0.heap.size e v l) (hb : Bts l) (hl : l.length ≤ 9223372036854775807) :
    Calls Tryz.prog 213 #[.int .u32 (num s), v] w fun r w' => r = .returned (.int .u32 (num (on s l))) ∧ Below w0.heap.size w0 w' ∧ Below w.heap.size w w' := by
  obtain ⟨C, cc, rfl, _, _, hr, _⟩ := hown.slice
  exact (on_any s C cc l w hl hb hr).mono fun r w' ⟨h1, h2⟩ => ⟨h1, bd.trans (below_weak bd.size h2), h2⟩
theorem tyB : RowTy Tryz.prog 45 5 .u8 := ⟨Tryz.underlying45, 1, by decide, by kernel_rfl⟩
theorem info1 : (Tryz.prog.info? 5).map (·.size) = some 1 := by kernel_rfl
end Go.Proofs.YticnjkdaccacaaaGreatDoor.Sums
end
section
namespace Go.Proofs.YticnjkdaccacaaaGreatDoor.TwinBytes
open Go.RowKit Base _root_.Go.Proofs.YticnjkdaccacaaaGreatDoor.Own
def Twn (w : World) (B : Nat) (v : Value) (l : List Int) : Prop :=
  ∃ g c, v = .slice (some ⟨g, 0, none⟩) l.length c ∧ OwnI .u8 w B 5 (.slice (some ⟨g, 0, none⟩) (l.length + 1) c) (l ++ [77])
theorem Twn.new {w w' : World} {B : Nat} {v : Value} {l : List Int} (h : Twn w B v l) (hb : Below w.heap.size w w') : Twn w' B v l := by
  obtain ⟨g, c, h1, h2⟩ := h
  exact ⟨g, c, h1, h2.new hb⟩
theorem Twn.lower {w : World} {B B' : Nat} {v : Value} {l : List Int} (h : Twn w B v l) (hB : B' ≤ B) : Twn w B' v l := by
  obtain ⟨g, c, h1, h2⟩ := h
  exact ⟨g, c, h1, h2.lower hB⟩
theorem Twn.reads {w : World} {B : Nat} {v : Value} {l : List Int} (h : Twn w B v l) : ∃ g c, v = .slice (some ⟨g, 0, none⟩) l.length c ∧ l.length < c ∧ B ≤ g ∧ g < w.heap.size ∧ Rd .u8 w (some ⟨g, 0, none⟩) l := by
  obtain ⟨g, c, h1, h2⟩ := h
  have h3 := h2.cell (j := l.length) (by simp)
  obtain ⟨A, c', e, _, _, hr, _⟩ := h2.slice
  injection e with e1 e2 e3
  subst e1
  have := hr.take l.length
  rw [List.take_left] at this
  exact ⟨g, c, h1, by omega, h3.2.2.1, h3.2.2.2.1, this⟩
theorem tyB : RowTy Tryz.prog 45 5 .u8 := ⟨Tryz.underlying45, 1, by decide, by kernel_rfl⟩
theorem info1 : (Tryz.prog.info? 5).map (·.size) = some 1 := by kernel_rfl
theorem mk0 (n : Nat) (hn : n ≤ 1000000000000) : ∀ W : World, (Instr.makeSlice 45 (.int .i64 0) (.int .i64 ((n : Int) + 1))).run Tryz.prog W = .ok (.slice (some ⟨W.heap.size, 0, none⟩) 0 (n + 1)) (W.alloc (.cells (madeCells #[.int .u8 0] (n + 1)) 5)) := by
  intro W
  obtain ⟨i, hi, hzz⟩ := Option.map_eq_some_iff.1 (show (Tryz.prog.info? 5).map (fun i => (i.zero, i.size, i.bytes)) = some (some (.int .u8 0), 1, 1) by kernel_rfl)
  simp only [Prod.mk.injEq] at hzz
  obtain ⟨hz0, hs, hby⟩ := hzz
  have h := run_make (P := Tryz.prog) W 45 5 i (.int .u8 0) Tryz.underlying45 hi hz0 .i64 .i64 0 ((n : Int) + 1) (by omega) (by omega) (by rw [hby]; omega) (by omega)
  rw [h, hs]
  simp only [Int.toNat_zero]
  have : ((n : Int) + 1).toNat = n + 1 := by omega
  rw [this, Nat.mul_one]
  rfl
set_option maxRecDepth 100000 in
theorem twin (A : Option Addr) (c : Nat) (l : List Int) (w : World) (hl : l.length ≤ 100000000000) (hr : Rd .u8 w A l) :
    Calls Tryz.prog 11 #[.slice A l.length c] w fun e w' => ∃ v, e = .returned v ∧ Twn w' w.heap.size v l ∧ Below w.heap.size w w' := by
  have HR := Lib.hid hr
  clear hr
  have hmk := mk0 l.length (by omega)
  go_enter Tryz.func11, Tryz.ntmps11
  go_wp2
  go_loopw [3, 4] (fun v i wr => ∃ k : Nat, k ≤ l.length ∧ i = .int .i64 k ∧ Hid (OwnI .u8 wr w.heap.size 5 v (l.take k)) ∧ Hid (Below w.heap.size w wr)) (fun _ i _ => l.length - (intOf i).toNat)
  case atStart =>
    refine ⟨0, by omega, rfl, ?_, (Below.refl _ _).alloc (Nat.le_refl _) _⟩
    exact World.ownsRow_made w _ (l.length + 1) (Nat.le_refl _) (by unfold maxLen; omega) (by rw [size_madeCells]; omega)
  case round =>
    clear hmk
    obtain ⟨k, hk, rfl, hown, hbd⟩ := hrel
    by_cases hlt : k < l.length
    · obtain ⟨ad, e, hb, hcell⟩ := (HR.out.below hbd.out).cell hlt
      subst e
      obtain ⟨y, hy⟩ : ∃ y, y = l.getD k 0 := ⟨_, rfl⟩
      rw [← hy] at hcell
      have HY := Lib.hid hy
      clear hy
      go_wp2_with (at_builtin; refine ap_lit rfl tyB hbd.out hown.out [y] rfl (by simp; omega) (.tmp 15) _ 1 1 rfl rfl rfl rfl ?_; clear hown hbd hcell hb; intro v2 w2 own2 bd2 _ _; have H2 := Lib.hid (And.intro own2 bd2); clear own2 bd2)
      go_roundw
      case rel =>
        refine ⟨k + 1, by omega, by go_num, ?_, H2.out.2⟩
        have h1 := H2.out.1
        rw [HY.out] at h1
        have : l.take (k + 1) = l.take k ++ [l.getD k 0] := by rw [List.take_succ_eq_append_getElem hlt, List.getD_eq_getElem?_getD, List.getElem?_eq_getElem hlt]; rfl
        rw [this]
        exact h1
      case measure => simp [intOf]; omega
    · obtain rfl : k = l.length := by omega
      have hown' := hown.out
      rw [List.take_length] at hown'
      have HO := Lib.hid hown'
      clear hown hown'
      go_wp2_with (at_builtin; refine ap_lit rfl tyB hbd.out HO.out [77] rfl (by simp; omega) (.tmp 22) _ 1 1 rfl rfl rfl rfl ?_; clear HO hbd; intro v2 w2 own2 bd2 _ _; obtain ⟨g, cc, rfl⟩ := own2.ptr (by simp); have hcc := (own2.cell (j := l.length) (by simp)).2.2.2.2.2; have hcc' : l.length ≤ cc := Nat.le_trans (by rw [List.length_append]; exact Nat.le_add_right _ _) hcc; have hsl := sl_take (P := Tryz.prog) 45 5 .i64 Tryz.underlying45 info1 (some ⟨g, 0, none⟩) (l ++ [77]).length cc l.length hcc'; have H2 := Lib.hid (And.intro own2 bd2); clear own2 bd2 hcc)
      go_ret
      refine ⟨_, rfl, ⟨g, cc, rfl, ?_⟩, H2.out.2⟩
      have h1 := H2.out.1
      have h2 : (l ++ [77]).length = l.length + 1 := by simp
      rwa [h2] at h1
set_option maxRecDepth 100000 in
theorem left (v : Value) (A : Option Addr) (c B : Nat) (l : List Int) (w : World) (hl : l.length ≤ 100000000000) (ht : Twn w B v l) (hr : Rd .u8 w A l) :
    Calls Tryz.prog 25 #[v, .slice A l.length c] w fun e w' => e = .returned (.bool true) ∧ Below w.heap.size w w' := by
  obtain ⟨g, cc, rfl, hown⟩ := ht
  have hcc0 := (hown.cell (j := l.length) (by simp)).2.2.2.2.2
  have hcc : l.length < cc := hcc0
  clear hcc0
  have hne : ((l.length : Int) != (l.length : Int)) = false := by rw [bne_eq_false_iff_eq]
  have hle : ¬ (cc : Int) ≤ (l.length : Int) := by omega
  have HR := Lib.hid hr
  have HO := Lib.hid hown
  clear hr hown
  go_enter Tryz.func25, Tryz.ntmps25
  go_wp2
  go_loopw [5] (fun i wr => ∃ k : Nat, k ≤ l.length ∧ i = .int .i64 k ∧ Hid (Below w.heap.size w wr)) (fun i _ => l.length - (intOf i).toNat)
  case atStart => exact ⟨0, by omega, rfl, Below.refl _ _⟩
  case round =>
    obtain ⟨k, hk, rfl, hbd⟩ := hrel
    have hown2 := HO.out.new hbd.out
    by_cases hlt : k < l.length
    · obtain ⟨ad, e, hb, hcell⟩ := (HR.out.below hbd.out).cell hlt
      subst e
      have hcell2 := (hown2.cell (j := k) (by simp; omega)).1
      have hk2 : (l ++ [77]).getD k 0 = l.getD k 0 := by rw [List.getD_eq_getElem?_getD, List.getD_eq_getElem?_getD, List.getElem?_append_left hlt]
      rw [hk2] at hcell2
      generalize l.getD k 0 = y at hcell hcell2
      clear hk2
      have HO2 := Lib.hid hown2
      have HC := Lib.hid (And.intro hcell hcell2)
      clear hown2 hcell hcell2 hb
      have ha : (⟨g, 0, none⟩ : Addr).add k = ⟨g, k, none⟩ := by unfold Addr.add; split <;> simp_all
      go_wp2_with fail
      refine wp_region_sl [.one (0, true, some 25), .one (1, true, some 26), .one (2, true, some 27), .one (3, true, some 28), .one (4, true, some 29), .one (5, true, some 30), .one (6, true, some 31), .one (7, true, some 32), .one (8, true, some 33)]
                [.one ⟨true, some 25, (Go.Op.move (Go.Operand.tmp 0)), 45, none⟩,
                .one ⟨true, some 26, (Go.Op.move (Go.Operand.tmp 5)), 3, none⟩,
                .one ⟨true, some 27, (Go.Op.indexAddr 45 (Go.Operand.tmp 25) (Go.Operand.tmp 26)), 0, none⟩,
                .one ⟨true, some 28, (Go.Op.load 5 (Go.Operand.tmp 27)), 5, none⟩,
                .one ⟨true, some 29, (Go.Op.move (Go.Operand.tmp 1)), 45, none⟩,
                .one ⟨true, some 30, (Go.Op.move (Go.Operand.tmp 5)), 3, none⟩,
                .one ⟨true, some 31, (Go.Op.indexAddr 45 (Go.Operand.tmp 29) (Go.Operand.tmp 30)), 0, none⟩,
                .one ⟨true, some 32, (Go.Op.load 5 (Go.Operand.tmp 31)), 5, none⟩,
                .one ⟨true, some 33, (Go.Op.binOp Go.BinOp.neq 5 (Go.Operand.tmp 28) (Go.Operand.tmp 32) 5), 4, none⟩]
                (fun w' => w'.cell? (ad.add k) = some (.int .u8 y) ∧ w'.cell? ⟨g, k, none⟩ = some (.int .u8 y)) rfl (by kernel_rfl) (by kernel_rfl) ?_ ?_
      · exact HC.out
      (repeat (first | ((with_reducible refine sq (v := ?_) (a' := ?_) ?_ ?_ ?_); rotate_left 2; (focus (intro w' hS; go_simp; (first | done | with_reducible rfl | rfl))); (simp only [Act.put, List.setIfInBounds_toArray, List.set_cons_zero, List.set_cons_succ]; rfl)) | ((with_reducible refine sn (a' := ?_) ?_ ?_ ?_); rotate_left; (focus rfl); (simp only [Act.put, List.setIfInBounds_toArray, List.set_cons_zero, List.set_cons_succ]; rfl)) | ((with_reducible refine sf trivial (a' := ?_) ?_ ?_ ?_); rotate_left; (focus rfl); (simp only [Act.put, List.setIfInBounds_toArray, List.set_cons_zero, List.set_cons_succ]; rfl)) | ((with_reducible refine sqg (v := ?_) (a' := ?_) ?_ ?_ ?_ ?_); rotate_left 2; (focus rfl); (focus (intro w' hS; go_simp; (first | done | with_reducible rfl | rfl))); (simp only [Act.put, List.setIfInBounds_toArray, List.set_cons_zero, List.set_cons_succ]; rfl)))); (repeat ((go_bits; (first | ((with_reducible refine sq (v := ?_) (a' := ?_) ?_ ?_ ?_); rotate_left 2; (focus (intro w' hS; go_simp; (first | done | with_reducible rfl | rfl))); (simp only [Act.put, List.setIfInBounds_toArray, List.set_cons_zero, List.set_cons_succ]; rfl)) | ((with_reducible refine sn (a' := ?_) ?_ ?_ ?_); rotate_left; (focus rfl); (simp only [Act.put, List.setIfInBounds_toArray, List.set_cons_zero, List.set_cons_succ]; rfl)) | ((with_reducible refine sf trivial (a' := ?_) ?_ ?_ ?_); rotate_left; (focus rfl); (simp only [Act.put, List.setIfInBounds_toArray, List.set_cons_zero, List.set_cons_succ]; rfl)) | ((with_reducible refine sqg (v := ?_) (a' := ?_) ?_ ?_ ?_ ?_); rotate_left 2; (focus rfl); (focus (intro w' hS; go_simp; (first | done | with_reducible rfl | rfl))); (simp only [Act.put, List.setIfInBounds_toArray, List.set_cons_zero, List.set_cons_succ]; rfl)))); (repeat (first | ((with_reducible refine sq (v := ?_) (a' := ?_) ?_ ?_ ?_); rotate_left 2; (focus (intro w' hS; go_simp; (first | done | with_reducible rfl | rfl))); (simp only [Act.put, List.setIfInBounds_toArray, List.set_cons_zero, List.set_cons_succ]; rfl)) | ((with_reducible refine sn (a' := ?_) ?_ ?_ ?_); rotate_left; (focus rfl); (simp only [Act.put, List.setIfInBounds_toArray, List.set_cons_zero, List.set_cons_succ]; rfl)) | ((with_reducible refine sf trivial (a' := ?_) ?_ ?_ ?_); rotate_left; (focus rfl); (simp only [Act.put, List.setIfInBounds_toArray, List.set_cons_zero, List.set_cons_succ]; rfl)) | ((with_reducible refine sqg (v := ?_) (a' := ?_) ?_ ?_ ?_ ?_); rotate_left 2; (focus rfl); (focus (intro w' hS; go_simp; (first | done | with_reducible rfl | rfl))); (simp only [Act.put, List.setIfInBounds_toArray, List.set_cons_zero, List.set_cons_succ]; rfl)))))); (try go_bits)
      refine sl_end ?_
      go_wp2
      go_roundw
      case rel => exact ⟨k + 1, by omega, by go_num, hbd.out.drew⟩
      case measure => simp [intOf]; omega
    · obtain rfl : k = l.length := by omega
      have hcell := (hown2.cell (j := l.length) (by simp)).1
      have h77 : (l ++ [77]).getD l.length 0 = 77 := by rw [List.getD_eq_getElem?_getD, List.getElem?_append_right (Nat.le_refl _)]; simp
      rw [h77] at hcell
      clear hown2 h77
      have hsl := sl_take (P := Tryz.prog) 45 5 .i64 Tryz.underlying45 info1 (some ⟨g, 0, none⟩) l.length cc (l.length + 1) (by omega)
      rw [show ((l.length + 1 : Nat) : Int) = (l.length : Int) + 1 from by omega] at hsl
      have ha : (⟨g, 0, none⟩ : Addr).add l.length = ⟨g, l.length, none⟩ := by unfold Addr.add; split <;> simp_all
      go_wp2
      go_ret
      exact ⟨rfl, hbd.out⟩
end Go.Proofs.YticnjkdaccacaaaGreatDoor.TwinBytes
end
