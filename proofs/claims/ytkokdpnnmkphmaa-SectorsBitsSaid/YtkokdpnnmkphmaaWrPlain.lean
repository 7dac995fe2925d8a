/- The plain law of what is written. -/
import Derived.Test.YtkokdpnnmkphmaaWritten
namespace Go.Proofs.Ytkokdpnnmkphmaa.Disk
open Go.RowKit Base Own OwnV Bytes

/-- The sector of the i-th write, and its bytes. -/
def secOf (l : List Int) (i : Nat) : Nat := (l.getD i 0 % 8).toNat
def byOf (l : List Int) (i : Nat) : List Int := pad [(i : Int) % 256, l.getD i 0 % 256]
theorem byOf_pc (l : List Int) (i : Nat) : Pc (byOf l i) := pad_pc (by simp) (by intro z hz; simp only [List.mem_cons, List.not_mem_nil, or_false] at hz; rcases hz with rfl | rfl <;> omega)
/-- The last write to a sector, of the first k that p lets in. -/
def lastW (p : Nat → Bool) (l : List Int) (at' : Nat) : Nat → Option Nat
  | 0 => none
  | k + 1 => if p k && secOf l k == at' then some k else lastW p l at' k
def shown (l : List Int) : Option Nat → List Int
  | none => List.replicate 64 0
  | some i => byOf l i
theorem getD_set {α : Type} (l : List α) (i j : Nat) (x d : α) (hi : i < l.length) : (l.set i x).getD j d = if i = j then x else l.getD j d := by
  rw [List.getD_eq_getElem?_getD, List.getD_eq_getElem?_getD, List.getElem?_set]
  split
  · rename_i h; subst h; first | rfl | (rw [if_pos hi]; rfl)
  · rfl
theorem blank_get (at' : Nat) (h : at' < 8) : (blank 8).seen.getD at' [] = List.replicate 64 0 := by
  simp only [blank, List.getD_eq_getElem?_getD, List.getElem?_replicate, h, if_true, Option.getD_some]
theorem seen_wr (l : List Int) (sure : Int) (at' : Nat) (hat : at' < 8) : ∀ k, (wrK l sure k).seen.getD at' [] = shown l (lastW (fun _ => true) l at' k) := by
  intro k
  induction k with
  | zero => exact blank_get at' hat
  | succ k ih =>
    have hs : (wrK l sure (k + 1)).seen = (wrK l sure k).seen.set (secOf l k) (byOf l k) := by
      show (wrOne (wrK l sure k) sure k (l.getD k 0)).seen = _
      unfold wrOne; split <;> rfl
    rw [hs, getD_set _ _ _ _ _ (by rw [(wrK_len l sure k).1]; unfold secOf; omega), ih]
    show _ = shown l (if (true && secOf l k == at') = true then some k else lastW (fun _ => true) l at' k)
    by_cases h : secOf l k = at'
    · rw [if_pos h, if_pos (by simp [h])]; rfl
    · rw [if_neg h, if_neg (by simp [h])]
def wOf (l : List Int) (i : Nat) : Int × List Int := (((secOf l i : Nat) : Int), byOf l i)
/-- Ahead of the sync, and behind it. -/
theorem waits_wr (l : List Int) (s : Nat) : ∀ k, (k ≤ s → (wrK l s k).waits = (List.range k).map (wOf l) ∧ (wrK l s k).sure = (blank 8).seen) ∧
    (s < k → (wrK l s k).waits = (List.range' s (k - s)).map (wOf l) ∧ (wrK l s k).sure = (wrK l s s).seen) := by
  intro k
  induction k with
  | zero => exact ⟨fun _ => ⟨rfl, rfl⟩, fun h => absurd h (Nat.not_lt_zero _)⟩
  | succ k ih =>
    refine ⟨fun h => ?_, fun h => ?_⟩
    · have h1 := ih.1 (by omega)
      have hne : ¬ ((k : Int) = (s : Int)) := by omega
      have e : wrK l s (k + 1) = (wrK l s k).write (secOf l k : Nat) (byOf l k) := by
        show wrOne _ _ _ _ = _
        unfold wrOne; rw [if_neg hne]; rfl
      rw [e]
      refine ⟨?_, h1.2⟩
      show (wrK l s k).waits ++ [(((secOf l k : Nat) : Int), byOf l k)] = _
      rw [h1.1, List.range_succ, List.map_append]; rfl
    · by_cases hks : k = s
      · subst hks
        have e : wrK l k (k + 1) = ((wrK l k k).sync).write (secOf l k : Nat) (byOf l k) := by
          show wrOne _ _ _ _ = _
          unfold wrOne; rw [if_pos rfl]; rfl
        rw [e, show k + 1 - k = 1 by omega]
        exact ⟨rfl, rfl⟩
      · have h1 := ih.2 (by omega)
        have hne : ¬ ((k : Int) = (s : Int)) := by omega
        have e : wrK l s (k + 1) = (wrK l s k).write (secOf l k : Nat) (byOf l k) := by
          show wrOne _ _ _ _ = _
          unfold wrOne; rw [if_neg hne]; rfl
        rw [e]
        refine ⟨?_, h1.2⟩
        show (wrK l s k).waits ++ [(((secOf l k : Nat) : Int), byOf l k)] = _
        rw [h1.1, show k + 1 - s = (k - s) + 1 by omega, List.range'_concat, List.map_append, Nat.one_mul, show s + (k - s) = k by omega]; rfl
theorem lastW_congr (p q : Nat → Bool) (l : List Int) (at' : Nat) : ∀ k, (∀ i, i < k → p i = q i) → lastW p l at' k = lastW q l at' k := by
  intro k
  induction k with
  | zero => intro _; rfl
  | succ k ih =>
    intro h
    unfold lastW
    rw [h k (by omega), ih (fun i hi => h i (by omega))]
theorem wrK_ok (l : List Int) (sure : Int) : ∀ k, (wrK l sure k).ok := by
  intro k
  induction k with
  | zero => exact blank_ok 8 (by decide) (by decide)
  | succ k ih =>
    show (wrOne (wrK l sure k) sure k (l.getD k 0)).ok
    have h8 := (wrK_len l sure k).1
    unfold wrOne
    split
    · exact ih.sync.write (by show _ ∧ _ < ((wrK l sure k).seen.length : Int); rw [h8]; omega) (byOf_pc l k)
    · exact ih.write (by rw [h8]; omega) (byOf_pc l k)
theorem row_ok (l : List Int) (s : Nat) (is : List Nat) : (⟨(wrK l s s).seen, (wrK l s s).seen, is.map (wOf l)⟩ : Dk).ok :=
  ⟨rfl, (wrK_ok l s s).pos, (wrK_ok l s s).most, (wrK_ok l s s).seen, (wrK_ok l s s).seen, fun x hx => by
    obtain ⟨i, _, rfl⟩ := List.mem_map.1 hx
    refine ⟨byOf_pc l i, ?_⟩
    show 0 ≤ ((secOf l i : Nat) : Int) ∧ ((secOf l i : Nat) : Int) < ((wrK l s s).seen.length : Int)
    rw [(wrK_len l s s).1]
    unfold secOf; omega⟩
/-- What is left, none being torn: the last write that was sure or is kept. -/
theorem fail_wr (l : List Int) (s n : Nat) (keep : Int) (at' : Nat) (hat : at' < 8) : ∀ m, m ≤ n - s →
    (failK keep (-1) (wrK l s s).seen ((List.range' s (n - s)).map (wOf l)) m).length = 8 ∧
    (failK keep (-1) (wrK l s s).seen ((List.range' s (n - s)).map (wOf l)) m).getD at' [] = shown l (lastW (fun i => decide (i < s) || kept keep (i - s)) l at' (s + m)) := by
  intro m
  induction m with
  | zero =>
    intro _
    refine ⟨(wrK_len l s s).1, ?_⟩
    show (wrK l s s).seen.getD at' [] = _
    rw [seen_wr l s at' hat s]
    congr 1
    exact lastW_congr _ _ _ _ _ fun i hi => by simp [hi]
  | succ m ih =>
    intro hm
    have h1 := ih (by omega)
    have hw : ((List.range' s (n - s)).map (wOf l))[m]? = some (wOf l (s + m)) := by
      rw [List.getElem?_map, List.getElem?_range' (by omega)]; simp
    have e : failK keep (-1) (wrK l s s).seen ((List.range' s (n - s)).map (wOf l)) (m + 1) = step keep (-1) (failK keep (-1) (wrK l s s).seen ((List.range' s (n - s)).map (wOf l)) m) m (wOf l (s + m)) := by
      show (match ((List.range' s (n - s)).map (wOf l))[m]? with | none => _ | some x => _) = _
      rw [hw]
    rw [e]
    have hp : part (-1) m = 64 := by unfold part; rw [if_neg (by omega)]
    have hb := (byOf_pc l (s + m)).1
    show _ ∧ _ = shown l (if ((decide (s + m < s) || kept keep (s + m - s)) && secOf l (s + m) == at') = true then some (s + m) else lastW _ l at' (s + m))
    rw [show s + m - s = m by omega, show decide (s + m < s) = false by simp, Bool.false_or]
    unfold step
    cases hk : kept keep m with
    | false => simp only [Bool.false_eq_true, if_false, Bool.false_and]; exact h1
    | true =>
      simp only [if_true, Bool.true_and]
      have hx : (wOf l (s + m)).1.toNat = secOf l (s + m) := by simp [wOf]
      have hy : (wOf l (s + m)).2.take (part (-1) m) ++ ((failK keep (-1) (wrK l s s).seen ((List.range' s (n - s)).map (wOf l)) m).getD (wOf l (s + m)).1.toNat []).drop (part (-1) m) = byOf l (s + m) := by
        rw [hp, hx]
        have hq := (failK_pc (row_ok l s (List.range' s (n - s))) keep (-1) m).2
        have hl : (secOf l (s + m)) < (failK keep (-1) (wrK l s s).seen ((List.range' s (n - s)).map (wOf l)) m).length := by rw [h1.1]; unfold secOf; omega
        have h64 : ((failK keep (-1) (wrK l s s).seen ((List.range' s (n - s)).map (wOf l)) m).getD (secOf l (s + m)) []).length = 64 := by
          rw [List.getD_eq_getElem?_getD, List.getElem?_eq_getElem hl]
          exact (hq _ (List.getElem_mem hl)).1
        rw [List.drop_eq_nil_of_le (by rw [h64]; exact Nat.le_refl _), List.append_nil]
        exact List.take_of_length_le (by show (byOf l (s + m)).length ≤ 64; omega)
      rw [hy, hx]
      refine ⟨by rw [List.length_set]; exact h1.1, ?_⟩
      rw [getD_set _ _ _ _ _ (by rw [h1.1]; unfold secOf; omega)]
      by_cases h : secOf l (s + m) = at'
      · rw [if_pos h, if_pos (by simp [h])]; rfl
      · rw [if_neg h, if_neg (by simp [h])]; exact h1.2
end Go.Proofs.Ytkokdpnnmkphmaa.Disk
