/- Frames: the plain law. -/
import Derived.Test.YticnjkdaccacaaaDoorFramesGet
namespace Go.Proofs.YticnjkdaccacaaaDoor.Frames
open Go.RowKit Crc Sums Base Own

theorem head_eq (n : Int) : head n = [n / 16777216 % 256, n / 65536 % 256, n / 256 % 256, n % 256] := by
  unfold head
  rw [byte3]
  simp [byte]
theorem head_length (n : Int) : (head n).length = 4 := rfl
theorem nsec_ge (n : Nat) : n + 8 ≤ nsec n * 64 := by unfold nsec; omega
theorem put_eq (r : List Int) : put r = head r.length ++ (head (num (on (on 0#32 (head r.length)) r)) ++ (r ++ List.replicate (nsec r.length * 64 - 8 - r.length) 0)) := by
  have h := nsec_ge r.length
  obtain ⟨M, hM⟩ : ∃ M, nsec r.length * 64 = 8 + M := ⟨nsec r.length * 64 - 8, by omega⟩
  unfold put
  rw [hM]
  have e : List.replicate (8 + M) (0 : Int) = 0 :: 0 :: 0 :: 0 :: 0 :: 0 :: 0 :: 0 :: List.replicate M 0 := by
    rw [Nat.add_comm]; rfl
  rw [e]
  simp only [told, Nat.zero_add, List.set_cons_zero, List.set_cons_succ, splice, Nat.reduceAdd]
  have e2 : ∀ (a b c d e f g h : Int) (l : List Int) (k : Nat), (a :: b :: c :: d :: e :: f :: g :: h :: l).drop (8 + k) = l.drop k := by
    intro a b c d e f g h l k
    rw [show 8 + k = k + 8 by omega]; rfl
  rw [e2, show 8 + M - 8 - r.length = M - r.length by omega, List.drop_replicate]
  rfl
theorem val_head (n : Int) (l : List Int) (h0 : 0 ≤ n) (h1 : n < 4294967296) : val (head n ++ l) 4 = n := by
  rw [head_eq]
  simp only [val, List.cons_append, List.getD_cons_zero, List.getD_cons_succ]
  omega
theorem head_drop (n : Int) (l : List Int) : (head n ++ l).drop 4 = l := rfl
theorem drop8 (m n : Int) (l : List Int) : (head m ++ (head n ++ l)).drop 8 = l := rfl
theorem put_bts {r : List Int} (hb : Bts r) : Bts (put r) := by
  rw [put_eq]
  refine (head_bts _).append ((head_bts _).append (hb.append ?_))
  intro x hx
  rw [List.eq_of_mem_replicate hx]; decide
theorem put_drop (r m : List Int) : ((put r ++ m).drop 8).take r.length = r := by
  rw [put_eq, List.append_assoc, List.append_assoc, drop8, List.append_assoc, List.take_left]
theorem put_val (r m : List Int) (hr : r.length ≤ 16384) : val (put r ++ m) 4 = r.length := by
  rw [put_eq, List.append_assoc]
  exact val_head _ _ (by omega) (by omega)
theorem get_put (r m : List Int) (hr : r.length ≤ 16384) : get (put r ++ m) = some (r, nsec r.length) := by
  have h := put_length r
  have h2 := nsec_ge r.length
  unfold get
  rw [if_neg (by rw [List.length_append]; omega), put_val r m hr, if_neg (by omega), Int.toNat_natCast, if_neg (by rw [List.length_append]; omega), put_drop, if_pos (by rw [← h, List.take_left])]
theorem get_some {b r : List Int} {k : Nat} (h : get b = some (r, k)) : k = nsec r.length ∧ r.length ≤ 16384 ∧ put r = b.take (k * 64) ∧ k * 64 ≤ b.length ∧ r = (b.drop 8).take r.length := by
  unfold get at h
  split at h
  · cases h
  split at h
  · cases h
  split at h
  · cases h
  split at h
  · rename_i h1 h2 h3 h4
    simp only [Option.some.injEq, Prod.mk.injEq] at h
    obtain ⟨hr, hk⟩ := h
    have h5 := nsec_ge (val b 4).toNat
    have h6 : r.length = (val b 4).toNat := by rw [← hr, List.length_take, List.length_drop]; omega
    rw [hr] at h4
    refine ⟨by rw [h6, hk], by omega, by rw [h4, hk], by omega, by rw [h6, hr]⟩
  · cases h
theorem get_short {b : List Int} (h : b.length < 64) : get b = none := by
  unfold get
  split
  · rfl
  split
  · rfl
  · rw [if_pos]; unfold nsec; omega
/-- Unlike records have unlike frames. -/
theorem put_inj (a b : List Int) (ha : a.length ≤ 16384) (hb : b.length ≤ 16384) (n : Nat) (hn : n = min (put a).length (put b).length) (h : (put a).take n = (put b).take n) : a = b := by
  have h1 := put_val a [] ha
  have h2 := put_val b [] hb
  rw [List.append_nil] at h1 h2
  have la := put_length a
  have lb := put_length b
  have ga := nsec_ge a.length
  have gb := nsec_ge b.length
  have h4 : ∀ l : List Int, 4 ≤ n → val (l.take n) 4 = val l 4 := by
    intro l h
    have : ∀ j, j < 4 → (l.take n).getD j 0 = l.getD j 0 := by
      intro j hj
      rw [List.getD_eq_getElem?_getD, List.getD_eq_getElem?_getD, List.getElem?_take, if_pos (by omega)]
    simp only [val, this 0 (by omega), this 1 (by omega), this 2 (by omega), this 3 (by omega)]
  have h5 : a.length = b.length := by
    have := h4 (put a) (by omega)
    rw [h, h4 (put b) (by omega)] at this
    omega
  have h6 : n = (put a).length := by rw [hn, la, lb, h5]; omega
  have h7 : n = (put b).length := by rw [hn, la, lb, h5]; omega
  rw [h6, List.take_length, ← h6, h7, List.take_length] at h
  have e1 := put_drop a []
  have e2 := put_drop b []
  rw [List.append_nil] at e1 e2
  rw [← e1, h, h5, e2]
end Go.Proofs.YticnjkdaccacaaaDoor.Frames
