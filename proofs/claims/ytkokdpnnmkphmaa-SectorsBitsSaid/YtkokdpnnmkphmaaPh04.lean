/- Plain facts on disks. -/
import Derived.Test.YtkokdpnnmkphmaaPh
import Derived.Test.YtkokdpnnmkphmaaSe
namespace Go.Proofs.Ytkokdpnnmkphmaa.Pl
open Go Go.RowKit Sx Base Own Disk Bytes

theorem wr_ok {D : Dk} {x : Int} {b : List Int} (h0 : 0 ≤ x) (h1 : x < D.seen.length) (hb : b.length ≤ 64) : writeCode D.seen.length x b = 0 ∧ D.writeR x b = D.write x (pad b) := by
  have h : writeCode D.seen.length x b = 0 := by
    have hm : mayOk D.seen.length x = 0 := by unfold mayOk; rw [if_pos ⟨h0, h1⟩]
    unfold writeCode
    rw [hm, if_neg (by omega)]
  exact ⟨h, by unfold Dk.writeR; rw [if_pos h]⟩
theorem blank_at {n q : Nat} (h : q < n) : (Disk.blank n).seen.getD q [] = List.replicate 64 0 := by
  simp only [Disk.blank, List.getD_eq_getElem?_getD, List.getElem?_replicate, h, if_true, Option.getD_some]
theorem blank_len (n : Nat) : (Disk.blank n).seen.length = n ∧ (Disk.blank n).waits.length = 0 := by simp [Disk.blank]
theorem write_seen (D : Dk) (x : Int) (p : List Int) : (D.write x p).seen = D.seen.set x.toNat p ∧ (D.write x p).waits.length = D.waits.length + 1 ∧ (D.write x p).sure = D.sure := by simp [Dk.write]
theorem sync_seen (D : Dk) : D.sync.seen = D.seen ∧ D.sync.waits.length = 0 ∧ D.sync.sure = D.seen := by simp [Dk.sync]
theorem kept_small {a : Int} (h0 : 0 ≤ a) (h1 : a ≤ 18446744073709551615) (i : Nat) : (bitv .and .u64 (Int.fdiv a (2 ^ min i 64)) 1 == 1) = kept a i := by
  have hp : (1 : Int) ≤ 2 ^ (min i 64) := by
    have : (0 : Int) < 2 ^ (min i 64) := Int.pow_pos (by decide)
    omega
  rw [Int.fdiv_eq_ediv_of_nonneg _ (by omega)]
  have hq0 : 0 ≤ a / (2 : Int) ^ (min i 64) := Int.ediv_nonneg h0 (by omega)
  have hq1 : a / (2 : Int) ^ (min i 64) ≤ a := Int.ediv_le_self _ h0
  have e : bitv .and .u64 (a / (2 : Int) ^ (min i 64)) 1 = a / (2 : Int) ^ (min i 64) % 2 := and_one _ hq0 (by omega)
  rw [e]
  unfold kept
  by_cases h : a / (2 : Int) ^ (min i 64) % 2 = 1
  · rw [h]; rfl
  · rw [beq_no h, df h]
theorem kept_big {a : Int} (h0 : 0 ≤ a) (h1 : a ≤ 18446744073709551615) {i : Nat} (hi : 64 ≤ i) : kept a i = false := by
  unfold kept
  rw [Nat.min_eq_right hi]
  refine df ?_
  have : a / (2 : Int) ^ 64 = 0 := Int.ediv_eq_zero_of_lt h0 (by omega)
  rw [this]; decide
theorem lastW_lt {p : Nat → Bool} {l : List Int} {a i : Nat} : ∀ {k : Nat}, lastW p l a k = some i → i < k ∧ p i = true ∧ secOf l i = a := by
  intro k
  induction k with
  | zero => intro h; cases h
  | succ k ih =>
    intro h
    unfold lastW at h
    split at h
    · rename_i hc
      injection h with h; subst h
      simp only [Bool.and_eq_true, beq_iff_eq] at hc
      exact ⟨by omega, hc.1, hc.2⟩
    · have := ih h; exact ⟨by omega, this.2⟩
def pS (s : Nat) (keep : Int) (i : Nat) : Bool := decide (i < s) || kept keep (i - s)
def want : Option Nat → Int
  | none => -1
  | some i => i
/-- The disk behind 'written' and the sync that may follow. -/
def dS (l : List Int) (s n : Nat) : Dk := if s = n then (wrK l s n).sync else wrK l s n
theorem dS_waits (l : List Int) (s n : Nat) (h : s ≤ n) : (dS l s n).waits.length = n - s := by
  unfold dS
  split
  · rename_i e; subst e; simp [Dk.sync]
  · rename_i e
    rw [((waits_wr l s n).2 (by omega)).1]; simp
theorem dS_fail (l : List Int) (s n : Nat) (h : s ≤ n) (keep : Int) (at' : Nat) (hat : at' < 8) :
    ((dS l s n).fail keep (-1)).seen.length = 8 ∧ ((dS l s n).fail keep (-1)).seen.getD at' [] = shown l (lastW (pS s keep) l at' n) := by
  unfold dS
  split
  · rename_i e; subst e
    refine ⟨(wrK_len l s s).1, ?_⟩
    show (wrK l s s).seen.getD at' [] = _
    rw [seen_wr l s at' hat s]
    congr 1
    exact lastW_congr _ _ _ _ _ fun i hi => by simp [pS, hi]
  · rename_i e
    have h1 := (waits_wr l s n).2 (by omega)
    have h2 := fail_wr l s n keep at' hat (n - s) (Nat.le_refl _)
    have e2 : ((wrK l s n).fail keep (-1)).seen = failK keep (-1) (wrK l s s).seen ((List.range' s (n - s)).map (wOf l)) (n - s) := by
      show failK keep (-1) (wrK l s n).sure (wrK l s n).waits (wrK l s n).waits.length = _
      rw [h1.1, h1.2]; simp
    rw [e2]
    rw [show s + (n - s) = n by omega] at h2
    exact h2

theorem last_yes (p : Nat → Bool) (l : List Int) (a j : Nat) (hp : p j = true) (h : l.getD j 0 % 8 = (a : Int)) : lastW p l a (j + 1) = some j := by
  unfold lastW
  rw [if_pos]
  have : secOf l j = a := by unfold secOf; omega
  simp [hp, this]
theorem last_no (p : Nat → Bool) (l : List Int) (a j : Nat) (h : p j = false ∨ l.getD j 0 % 8 ≠ (a : Int)) : lastW p l a (j + 1) = lastW p l a j := by
  rw [lastW, if_neg]
  rcases h with h | h
  · simp [h]
  · have : secOf l j ≠ a := by unfold secOf; omega
    simp [this]


/-- All that is seen is what was sure, with the writes that wait. -/
def Fresh (D : Dk) : Prop := D.seen = D.waits.foldl (fun s x => s.set x.1.toNat x.2) D.sure
theorem Fresh.blank (n : Nat) : Fresh (Disk.blank n) := rfl
theorem Fresh.write {D : Dk} (h : Fresh D) (x : Int) (p : List Int) : Fresh (D.write x p) := by
  show D.seen.set x.toNat p = (D.waits ++ [(x, p)]).foldl _ D.sure
  rw [List.foldl_append, ← h]; rfl
theorem failK_all {D : Dk} (hok : D.ok) (keep : Int) (hk : ∀ i, i < D.waits.length → kept keep i = true) : ∀ m, m ≤ D.waits.length → failK keep (-1) D.sure D.waits m = (D.waits.take m).foldl (fun s x => s.set x.1.toNat x.2) D.sure := by
  intro m
  induction m with
  | zero => intro _; rfl
  | succ m ih =>
    intro hm
    have hw : D.waits[m]? = some D.waits[m] := List.getElem?_eq_getElem (by omega)
    have e : failK keep (-1) D.sure D.waits (m + 1) = Disk.step keep (-1) (failK keep (-1) D.sure D.waits m) m D.waits[m] := by
      show (match D.waits[m]? with | none => _ | some x => _) = _
      rw [hw]
    have hx := hok.waits _ (List.getElem_mem (show m < D.waits.length by omega))
    have hq := failK_pc hok keep (-1) m
    rw [e, List.take_succ_eq_append_getElem (by omega), List.foldl_append]
    show _ = ((D.waits.take m).foldl _ D.sure).set D.waits[m].1.toNat D.waits[m].2
    unfold Disk.step
    rw [if_pos (hk m (by omega)), ih (by omega)]
    rw [ih (by omega)] at hq
    have hp : Disk.part (-1) m = 64 := by unfold Disk.part; rw [if_neg (by omega)]
    have hlt : D.waits[m].1.toNat < ((D.waits.take m).foldl (fun s x => s.set x.1.toNat x.2) D.sure).length := by rw [hq.1]; omega
    have h64 : (((D.waits.take m).foldl (fun s x => s.set x.1.toNat x.2) D.sure).getD D.waits[m].1.toNat []).length = 64 := by
      rw [List.getD_eq_getElem?_getD, List.getElem?_eq_getElem hlt]
      exact (hq.2 _ (List.getElem_mem hlt)).1
    rw [hp, List.drop_eq_nil_of_le (by omega), List.append_nil, List.take_of_length_le (show D.waits[m].2.length ≤ 64 by rw [hx.1.1]; exact Nat.le_refl _)]
theorem fail_all {D : Dk} (hok : D.ok) (hf : Fresh D) (keep : Int) (hk : ∀ i, i < D.waits.length → kept keep i = true) : (D.fail keep (-1)).seen = D.seen := by
  show failK keep (-1) D.sure D.waits D.waits.length = D.seen
  rw [failK_all hok keep hk _ (Nat.le_refl _), List.take_length]
  exact hf.symm
theorem pad1 (x : Int) : (pad [x]).getD 0 0 = x := rfl
theorem zeros0 : (List.replicate 64 (0 : Int)).getD 0 0 = 0 := rfl
end Go.Proofs.Ytkokdpnnmkphmaa.Pl
