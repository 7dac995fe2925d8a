/- Texts of this work, one behind the other. -/
import Derived.Test.YticnjkdaccacaaaGreatDoorVWallsPlay15
import Derived.SizedLaws
import Derived.IntWalk
section
namespace Go.Proofs.YticnjkdaccacaaaGreatDoor.Sx
open Go Go.RowKit Base _root_.Go.Proofs.YticnjkdaccacaaaGreatDoor.Own Disk Bytes
def chunks : Nat → List Int → List (List Int)
 | 0, _ => []
 | k + 1, b => b.take 64 :: chunks k (b.drop 64)
def fsec (r : List Int) : List (List Int) := chunks (Frames.nsec r.length) (Frames.put r)
def fsecs (ls : List (List Int)) : List (List Int) := ls.flatMap fsec
def lenS (ls : List (List Int)) : Nat := (ls.map fun r => Frames.nsec r.length).sum
def zs (k : Nat) : List (List Int) := List.replicate k (List.replicate 64 0)
def wl : Nat → List (List Int) → List (Int × List Int)
 | _, [] => []
 | x, p :: r => ((x : Int), p) :: wl (x + 1) r
theorem chunks_len : ∀ (k : Nat) (b : List Int), (chunks k b).length = k := by
 intro k
 induction k with
 | zero => intro b; rfl
 | succ k ih => intro b; rw [chunks, List.length_cons, ih]
theorem chunks_flat : ∀ (k : Nat) (b : List Int), b.length = k * 64 → (chunks k b).flatten = b := by
 intro k
 induction k with
 | zero =>
  intro b h
  have hb : b = [] := List.eq_nil_of_length_eq_zero (by omega)
  rw [hb]; rfl
 | succ k ih => intro b h; rw [chunks, List.flatten_cons, ih _ (by rw [List.length_drop]; omega), List.take_append_drop]
theorem chunks_64 : ∀ (k : Nat) (b : List Int), b.length = k * 64 → ∀ p ∈ chunks k b, p.length = 64 := by
 intro k
 induction k with
 | zero => intro b _ p hp; cases hp
 | succ k ih =>
  intro b h p hp
  rcases List.mem_cons.1 hp with rfl | hp
  ·rw [List.length_take]; omega
  ·exact ih _ (by rw [List.length_drop]; omega) p hp
theorem fsec_len (r : List Int) : (fsec r).length = Frames.nsec r.length := chunks_len _ _
theorem fsec_flat (r : List Int) : (fsec r).flatten = Frames.put r := chunks_flat _ _ (Frames.put_length r)
theorem fsecs_len (ls : List (List Int)) : (fsecs ls).length = lenS ls := by
 unfold fsecs lenS
 rw [List.length_flatMap]
 congr 1
 exact List.map_congr_left fun r _ => fsec_len r
theorem fsecs_snoc (ls : List (List Int)) (r : List Int) : fsecs (ls ++ [r]) = fsecs ls ++ fsec r := by simp [fsecs]
theorem lenS_snoc (ls : List (List Int)) (r : List Int) : lenS (ls ++ [r]) = lenS ls + Frames.nsec r.length := by simp [lenS]
theorem nsec_pos (n : Nat) : 1 ≤ Frames.nsec n := by unfold Frames.nsec; omega
theorem lenS_ge (ls : List (List Int)) : ls.length ≤ lenS ls := by
 induction ls with
 | nil => exact Nat.le_refl _
 | cons r ls ih =>
  have := nsec_pos r.length
  simp only [lenS, List.map_cons, List.sum_cons, List.length_cons] at *
  omega
theorem zs_flat (k : Nat) : (zs k).flatten = List.replicate (k * 64) 0 := by
 unfold zs
 rw [List.flatten_replicate_replicate]
theorem zs_add (j k : Nat) : zs j ++ zs k = zs (j + k) := by unfold zs; rw [List.replicate_append_replicate]
theorem put_nil : Frames.put [] ≠ List.replicate 64 0 := by
 intro h
 have : (Frames.put []).getD 4 0 = 0 := by rw [h]; rfl
 revert this
 decide
theorem val_zeros : ∀ (k m : Nat), Frames.val (List.replicate m 0) k = 0 := by
 intro k
 induction k with
 | zero => intro m; rfl
 | succ k ih =>
  intro m
  rw [Frames.val, ih, List.getD_eq_getElem?_getD, List.getElem?_replicate]
  split <;> rfl
theorem get_zeros (m : Nat) : Frames.get (List.replicate m 0) = none := by
 unfold Frames.get
 rw [List.length_replicate, val_zeros]
 split
 ·rfl
 ·rw [if_neg (by decide)]
  have h0 : Frames.nsec (Int.toNat 0) * 64 = 64 := rfl
  rw [h0]
  split
  ·rfl
  ·rename_i h
   have e : Int.toNat 0 = 0 := rfl
   rw [if_neg]
   rw [e, List.take_zero, List.take_replicate, Nat.min_eq_left (by omega)]
   exact put_nil
theorem parse_recs : ∀ (ls : List (List Int)) (rest : List Int) (k : Nat), (∀ r ∈ ls, r.length ≤ 16384) → Frames.get rest = none → ls.length < k → parse k ((fsecs ls).flatten ++ rest) = ls.map fun r => (r, Frames.nsec r.length) := by
 intro ls
 induction ls with
 | nil =>
  intro rest k _ hg hk
  obtain ⟨k, rfl⟩ : ∃ q, k = q + 1 := ⟨k - 1, by simp only [List.length_nil] at hk; omega⟩
  show parse (k + 1) ([] ++ rest) = []
  rw [List.nil_append, parse, hg]
 | cons r ls ih =>
  intro rest k hl hg hk
  rw [List.length_cons] at hk
  obtain ⟨k, rfl⟩ : ∃ q, k = q + 1 := ⟨k - 1, by omega⟩
  have e : (fsecs (r :: ls)).flatten ++ rest = Frames.put r ++ ((fsecs ls).flatten ++ rest) := by
   rw [show fsecs (r :: ls) = fsec r ++ fsecs ls by simp [fsecs], List.flatten_append, fsec_flat, List.append_assoc]
  rw [e, parse, Frames.get_put r _ (hl r List.mem_cons_self)]
  simp only
  rw [← Frames.put_length, List.drop_left, ih rest k (fun q hq => hl q (List.mem_cons_of_mem _ hq)) hg (by omega)]
  rfl
theorem pad_64 {b : List Int} (h : b.length = 64) : pad b = b := by unfold pad; rw [h]; simp
theorem writeR_in {D : Dk} {x : Nat} {b : List Int} (hx : x < D.seen.length) (hb : b.length = 64) : D.writeR x b = { D with seen := D.seen.set x b, waits := D.waits ++ [((x : Int), b)] } := by
 have hm : mayOk D.seen.length x = 0 := by unfold mayOk; rw [if_pos (by omega)]
 have hc : writeCode D.seen.length x b = 0 := by unfold writeCode; rw [hm, if_neg (by omega)]
 unfold Dk.writeR
 rw [if_pos hc, pad_64 hb]; rfl
theorem set_take {α : Type} {l : List α} {x : Nat} (hx : x < l.length) (v : α) : (l.set x v).take (x + 1) = l.take x ++ [v] := by
 rw [List.take_succ_eq_append_getElem (by rw [List.length_set]; exact hx), List.getElem_set_self, List.take_set_of_le (Nat.le_refl _)]
theorem wrs_is : ∀ (k : Nat) (D : Dk) (x : Nat) (b : List Int), b.length = k * 64 → x + k ≤ D.seen.length →
  wrs D x k b = { D with seen := D.seen.take x ++ (chunks k b ++ D.seen.drop (x + k)), waits := D.waits ++ wl x (chunks k b) } := by
 intro k
 induction k with
 | zero =>
  intro D x b _ _
  rw [wrs, chunks, wl, List.nil_append, Nat.add_zero, List.take_append_drop, List.append_nil]
 | succ k ih =>
  intro D x b hb hx
  have h64 : (b.take 64).length = 64 := by rw [List.length_take]; omega
  rw [wrs, writeR_in (by omega) h64, ih _ _ _ (by rw [List.length_drop]; omega) (by simp only [List.length_set]; omega)]
  simp only
  rw [set_take (by omega), List.drop_set_of_lt (by omega), chunks, wl, List.append_assoc, List.append_assoc, show x + 1 + k = x + (k + 1) by omega]
  rfl
structure Lg (D : Dk) (n : Nat) (ls : List (List Int)) : Prop where
 seen : D.seen = fsecs ls ++ zs (n - lenS ls)
 len : lenS ls ≤ n
 recs : ∀ r ∈ ls, r.length ≤ 16384
theorem Lg.size {D : Dk} {n : Nat} {ls : List (List Int)} (h : Lg D n ls) : D.seen.length = n := by
 have := h.len
 rw [h.seen, List.length_append, fsecs_len, zs, List.length_replicate]; omega
theorem Lg.found {D : Dk} {n : Nat} {ls : List (List Int)} (h : Lg D n ls) : found D = ls.map fun r => (r, Frames.nsec r.length) := by
 unfold Sx.found
 have h1 := lenS_ge ls
 have e : D.seen.flatten = (fsecs ls).flatten ++ List.replicate ((n - lenS ls) * 64) 0 := by rw [h.seen, List.flatten_append, zs_flat]
 have hl : ls.length ≤ D.seen.flatten.length := by
  have h2 : (fsecs ls).flatten.length = lenS ls * 64 := by
   have : ∀ (l : List (List Int)), (fsecs l).flatten.length = lenS l * 64 := by
    intro l
    induction l with
    | nil => rfl
    | cons r l ih =>
     rw [show fsecs (r :: l) = fsec r ++ fsecs l by simp [fsecs], List.flatten_append, List.length_append, ih, fsec_flat, Frames.put_length]
     simp only [lenS, List.map_cons, List.sum_cons]
     omega
   exact this ls
  rw [e, List.length_append]
  omega
 rw [show parse (D.seen.flatten.length + 1) D.seen.flatten = parse (D.seen.flatten.length + 1) ((fsecs ls).flatten ++ List.replicate ((n - lenS ls) * 64) 0) by rw [← e]]
 exact parse_recs ls _ _ h.recs (get_zeros _) (by omega)
theorem Lg.told {D : Dk} {n : Nat} {ls : List (List Int)} (h : Lg D n ls) : recsD D = ls := by
 unfold recsD
 rw [h.found, List.map_map]
 show ls.map (fun r => r) = ls
 exact List.map_id' ls
theorem Lg.at {D : Dk} {n : Nat} {ls : List (List Int)} (h : Lg D n ls) : atD D = lenS ls := by
 unfold atD secs
 rw [h.found, List.map_map]
 rfl
theorem add_no {D : Dk} {x : Nat} {l : List Int} (h : addE D x l ≠ 0) : addX D x l = x ∧ addD D x l = D := by
 unfold addX addD
 rw [if_neg h, if_neg h]; exact ⟨rfl, rfl⟩
theorem Lg.add {D : Dk} {n : Nat} {ls : List (List Int)} (h : Lg D n ls) {l : List Int} (hl : l.length ≤ 16384) (hf : lenS ls + Frames.nsec l.length ≤ n) :
  addE D (lenS ls) l = 0 ∧ addX D (lenS ls) l = lenS (ls ++ [l]) ∧ Lg (addD D (lenS ls) l) n (ls ++ [l]) ∧ (addD D (lenS ls) l).sure = D.sure ∧ (addD D (lenS ls) l).waits = D.waits ++ wl (lenS ls) (fsec l) := by
 have hs := h.size
 have e : addE D (lenS ls) l = 0 := by unfold addE; rw [if_neg (by omega), if_neg (by omega)]
 have hd : addD D (lenS ls) l = wrs D (lenS ls) (Frames.nsec l.length) (Frames.put l) := by unfold addD; rw [if_pos e]
 rw [hd, wrs_is _ _ _ _ (Frames.put_length l) (by omega)]
 refine ⟨e, by unfold addX; rw [if_pos e, lenS_snoc], ⟨?_, by rw [lenS_snoc]; exact hf, fun r hr => ?_⟩, rfl, rfl⟩
 ·show D.seen.take (lenS ls) ++ (fsec l ++ D.seen.drop (lenS ls + Frames.nsec l.length)) = _
  have hz : (zs (n - (fsecs ls).length)).drop ((fsecs ls).length + Frames.nsec l.length - (fsecs ls).length) = zs (n - lenS (ls ++ [l])) := by
   rw [zs, zs, List.drop_replicate, lenS_snoc, fsecs_len]
   congr 1
   omega
  rw [h.seen, ← fsecs_len, List.take_left, List.drop_append, List.drop_eq_nil_of_le (by omega), List.nil_append, hz, fsecs_snoc, List.append_assoc]
 ·rcases List.mem_append.1 hr with hr | hr
  ·exact h.recs r hr
  ·rw [List.mem_singleton] at hr; rw [hr]; exact hl
theorem Lg.full {D : Dk} {n : Nat} {ls : List (List Int)} (h : Lg D n ls) {l : List Int} (hl : l.length ≤ 16384) (hf : n < lenS ls + Frames.nsec l.length) : addE D (lenS ls) l = 5 := by
 have hs := h.size
 unfold addE; rw [if_neg (by omega), if_pos (by omega)]
theorem Lg.big (D : Dk) (x : Nat) {l : List Int} (hl : 16384 < l.length) : addE D x l = 3 := if_pos hl
theorem Lg.room {D : Dk} {n : Nat} {ls : List (List Int)} (h : Lg D n ls) (x : Int) : roomF D (lenS ls : Nat) x = decide (0 ≤ x ∧ x ≤ 16384 ∧ lenS ls + Frames.nsec x.toNat ≤ n) := by
 have hs := h.size
 have hl := h.len
 unfold roomF
 exact decide_eq_decide.2 ⟨fun ⟨a, b, c⟩ => ⟨a, b, by omega⟩, fun ⟨a, b, c⟩ => ⟨a, b, by omega⟩⟩
theorem Lg.ofSeen {D D' : Dk} {n : Nat} {ls : List (List Int)} (h : Lg D n ls) (e : D'.seen = D.seen) : Lg D' n ls := ⟨by rw [e]; exact h.seen, h.len, h.recs⟩
theorem Lg.sync {D : Dk} {n : Nat} {ls : List (List Int)} (h : Lg D n ls) : Lg D.sync n ls := h.ofSeen rfl
theorem Lg.start (n : Nat) : Lg (Disk.blank n) n [] := ⟨by show zs n = [] ++ zs (n - 0); rfl, Nat.zero_le _, fun r hr => by cases hr⟩
theorem flat_sec : ∀ (l : List (List Int)) (i : Nat), (∀ p ∈ l, p.length = 64) → i < l.length → (l.flatten.drop (i * 64)).take 64 = l.getD i [] := by
 intro l
 induction l with
 | nil => intro i _ h; simp at h
 | cons p l ih =>
  intro i hp hi
  have h64 := hp p List.mem_cons_self
  cases i with
  | zero => simp [List.take_append, h64]
  | succ i =>
   rw [List.flatten_cons, show (i + 1) * 64 = p.length + i * 64 by omega, List.drop_append, show p.length + i * 64 - p.length = i * 64 by omega, List.drop_eq_nil_of_le (by omega), List.nil_append, ih i (fun q hq => hp q (List.mem_cons_of_mem _ hq)) (by simpa using hi)]
   rfl
theorem clr_seen {s : List (List Int)} (hs : ∀ p ∈ s, p.length = 64) : ∀ (k i : Nat) (D : Dk), i + k = s.length → D.seen.length = s.length → (∀ j, i ≤ j → D.seen.getD j [] = s.getD j []) → (clr s.flatten k i D).seen = D.seen.take i ++ zs k := by
 intro k
 induction k with
 | zero => intro i D h1 h2 _; rw [clr, List.take_of_length_le (by omega)]; simp [zs]
 | succ k ih =>
  intro i D h1 h2 h3
  have hi : i < D.seen.length := by omega
  have hz : ∀ k : Nat, [List.replicate 64 (0 : Int)] ++ zs k = zs (k + 1) := fun k => rfl
  rw [clr, flat_sec s i hs (by omega)]
  by_cases he : s.getD i [] = List.replicate 64 0
  ·rw [if_pos he, ih (i + 1) D (by omega) h2 (fun j hj => h3 j (by omega)), List.take_succ_eq_append_getElem hi, List.append_assoc]
   have : D.seen[i] = List.replicate 64 0 := by
    have := h3 i (Nat.le_refl _)
    rw [he, List.getD_eq_getElem?_getD, List.getElem?_eq_getElem hi] at this
    exact this
   rw [this, hz]
  ·rw [if_neg he, writeR_in hi (List.length_replicate), ih (i + 1) _ (by omega) (by simp only [List.length_set]; exact h2) (fun j hj => ?_)]
   ·simp only
    rw [set_take hi, List.append_assoc, hz]
   ·simp only
    rw [← h3 j (by omega), List.getD_eq_getElem?_getD, List.getD_eq_getElem?_getD, List.getElem?_set_ne (by omega)]
theorem openD_is {D : Dk} (hs : ∀ p ∈ D.seen, p.length = 64) (ha : atD D ≤ D.seen.length) : openD D = ⟨D.seen.take (atD D) ++ zs (D.seen.length - atD D), D.seen.take (atD D) ++ zs (D.seen.length - atD D), []⟩ := by
 unfold openD Dk.sync
 rw [clr_seen hs _ _ D (by omega) rfl (fun _ _ => rfl)]
theorem fsecs_64 (ls : List (List Int)) : ∀ p ∈ fsecs ls, p.length = 64 := by
 intro p hp
 obtain ⟨r, _, hr⟩ := List.mem_flatMap.1 hp
 exact chunks_64 _ _ (Frames.put_length r) p hr
theorem Lg.sec64 {D : Dk} {n : Nat} {ls : List (List Int)} (h : Lg D n ls) : ∀ p ∈ D.seen, p.length = 64 := by
 intro p hp
 rw [h.seen] at hp
 rcases List.mem_append.1 hp with hp | hp
 ·exact fsecs_64 ls p hp
 ·rw [List.eq_of_mem_replicate hp]; exact List.length_replicate
theorem Lg.opened {D : Dk} {n : Nat} {ls : List (List Int)} (h : Lg D n ls) : openD D = ⟨D.seen, D.seen, []⟩ := by
 have hs := h.size
 have hl := h.len
 rw [openD_is h.sec64 (by rw [h.at]; omega), h.at, hs]
 have e : D.seen.take (lenS ls) ++ zs (n - lenS ls) = D.seen := by rw [h.seen, ← fsecs_len, List.take_left]
 rw [e]
theorem Lg.open_ {D : Dk} {n : Nat} {ls : List (List Int)} (h : Lg D n ls) : Lg (openD D) n ls ∧ (openD D).waits = [] ∧ (openD D).sure = (openD D).seen := by
 rw [h.opened]
 exact ⟨h.ofSeen rfl, rfl, rfl⟩
end Go.Proofs.YticnjkdaccacaaaGreatDoor.Sx
end
section
namespace Go.Proofs.YticnjkdaccacaaaGreatDoor.Sx
open Go Go.RowKit Base _root_.Go.Proofs.YticnjkdaccacaaaGreatDoor.Own Disk Bytes
theorem Lg.addI {D : Dk} {n : Nat} {ls : List (List Int)} (h : Lg D n ls) {l : List Int} (hl : l.length ≤ 16384) (hf : lenS ls + Frames.nsec l.length ≤ n) :
  addEI D (lenS ls : Nat) l = 0 ∧ addXI D (lenS ls : Nat) l = (lenS (ls ++ [l]) : Nat) ∧ Lg (addDI D (lenS ls : Nat) l) n (ls ++ [l]) ∧ (addDI D (lenS ls : Nat) l).sure = D.sure ∧ (addDI D (lenS ls : Nat) l).waits = D.waits ++ wl (lenS ls) (fsec l) := by
 obtain ⟨h1, h2, h3⟩ := h.add hl hf
 exact ⟨h1, congrArg (fun k : Nat => (k : Int)) h2, h3⟩
theorem Lg.fullI {D : Dk} {n : Nat} {ls : List (List Int)} (h : Lg D n ls) {l : List Int} (hl : l.length ≤ 16384) (hf : n < lenS ls + Frames.nsec l.length) :
  addEI D (lenS ls : Nat) l = 5 ∧ addXI D (lenS ls : Nat) l = (lenS ls : Nat) ∧ addDI D (lenS ls : Nat) l = D := by
 have h1 := h.full hl hf
 have h2 := add_no (D := D) (x := lenS ls) (l := l) (by rw [h1]; decide)
 exact ⟨h1, congrArg (fun k : Nat => (k : Int)) h2.1, h2.2⟩
theorem bigI (D : Dk) (x : Nat) {l : List Int} (hl : 16384 < l.length) : addEI D (x : Nat) l = 3 ∧ addXI D (x : Nat) l = (x : Nat) ∧ addDI D (x : Nat) l = D := by
 have h1 := Lg.big D x hl
 have h2 := add_no (D := D) (x := x) (l := l) (by rw [h1]; decide)
 exact ⟨h1, congrArg (fun k : Nat => (k : Int)) h2.1, h2.2⟩
theorem wl_len : ∀ (x : Nat) (cs : List (List Int)), (wl x cs).length = cs.length := by
 intro x cs
 induction cs generalizing x with
 | nil => rfl
 | cons p r ih => rw [wl, List.length_cons, List.length_cons, ih]
theorem wlq_app : ∀ (x : Nat) (a b : List (List Int)), wl x (a ++ b) = wl x a ++ wl (x + a.length) b := by
 intro x a
 induction a generalizing x with
 | nil => intro b; rfl
 | cons p r ih => intro b; rw [List.cons_append, wl, ih, wl, List.cons_append, List.length_cons, show x + 1 + r.length = x + (r.length + 1) by omega]
theorem wl_at : ∀ (cs : List (List Int)) (x i : Nat), (wl x cs)[i]? = (cs[i]?).map fun p => (((x + i : Nat) : Int), p) := by
 intro cs
 induction cs with
 | nil => intro x i; rfl
 | cons p r ih =>
  intro x i
  cases i with
  | zero => rfl
  | succ i =>
   rw [wl, List.getElem?_cons_succ, List.getElem?_cons_succ, ih, show x + 1 + i = x + (i + 1) by omega]
def sumL (ls : List (List Int)) : Nat := (ls.map List.length).sum
theorem sum_mem {ls : List (List Int)} {x : List Int} (h : x ∈ ls) : x.length ≤ sumL ls := by
 induction ls with
 | nil => cases h
 | cons y r ih =>
  have e : sumL (y :: r) = y.length + sumL r := by simp [sumL]
  rcases List.mem_cons.1 h with rfl | h
  ·omega
  ·have := ih h; omega
theorem lenS_le (ls : List (List Int)) : 64 * lenS ls ≤ sumL ls + 71 * ls.length := by
 induction ls with
 | nil => exact Nat.le_refl _
 | cons r ls ih =>
  have e : sumL (r :: ls) = r.length + sumL ls := by simp [sumL]
  have e2 : lenS (r :: ls) = Frames.nsec r.length + lenS ls := by simp [lenS]
  have : 64 * Frames.nsec r.length ≤ r.length + 71 := by unfold Frames.nsec; omega
  rw [e, e2, List.length_cons]; omega
theorem sum_take (ls : List (List Int)) (k : Nat) : sumL (ls.take k) ≤ sumL ls := by
 induction ls generalizing k with
 | nil => simp
 | cons r ls ih =>
  cases k with
  | zero => exact Nat.zero_le _
  | succ k =>
   have := ih k
   have e : sumL (r :: ls) = r.length + sumL ls := by simp [sumL]
   have e2 : sumL (r :: ls.take k) = r.length + sumL (ls.take k) := by simp [sumL]
   rw [List.take_succ_cons, e, e2]; omega
theorem lenS_take (ls : List (List Int)) (k : Nat) : lenS (ls.take k) ≤ lenS ls := by
 induction ls generalizing k with
 | nil => simp
 | cons r ls ih =>
  cases k with
  | zero => exact Nat.zero_le _
  | succ k =>
   have := ih k
   have e : lenS (r :: ls) = Frames.nsec r.length + lenS ls := by simp [lenS]
   have e2 : lenS (r :: ls.take k) = Frames.nsec r.length + lenS (ls.take k) := by simp [lenS]
   rw [List.take_succ_cons, e, e2]; omega
theorem short_of {ls : List (List Int)} {n : Nat} (h : ∀ x ∈ ls, x.length ≤ n) (hn : n ≤ 1000000000) : shortL ls = true := by
 unfold shortL
 rw [List.all_eq_true]
 intro x hx
 have := h x hx
 simp; omega
theorem parse_frames : ∀ (k : Nat) (b : List Int), b.length < k → (∀ p ∈ parse k b, p.2 = Frames.nsec p.1.length ∧ p.1.length ≤ 16384) ∧ (fsecs ((parse k b).map (·.1))).flatten = b.take (secs (parse k b) * 64) ∧ lenS ((parse k b).map (·.1)) = secs (parse k b) := by
 intro k
 induction k with
 | zero => intro b h; omega
 | succ k ih =>
  intro b hk
  unfold parse
  cases h : Frames.get b with
  | none => exact ⟨fun p hp => (by cases hp), (by simp [secs, fsecs]), rfl⟩
  | some p =>
   obtain ⟨r, m⟩ := p
   obtain ⟨g1, g2, g3, g4⟩ := get_len h
   obtain ⟨_, _, g5, _, _⟩ := Frames.get_some h
   obtain ⟨i1, i2, i3⟩ := ih (b.drop (m * 64)) (by rw [List.length_drop]; omega)
   have es : secs ((r, m) :: parse k (b.drop (m * 64))) = m + secs (parse k (b.drop (m * 64))) := by unfold secs; simp
   simp only
   refine ⟨fun p hp => ?_, ?_, ?_⟩
   ·rcases List.mem_cons.1 hp with rfl | hp
    ·exact ⟨g1, g4⟩
    ·exact i1 p hp
   ·rw [es, List.map_cons, show fsecs (r :: (parse k (b.drop (m * 64))).map (·.1)) = fsec r ++ fsecs ((parse k (b.drop (m * 64))).map (·.1)) by simp [fsecs], List.flatten_append, fsec_flat, i2, g5, Nat.add_mul, List.take_add]
   ·rw [es, ← i3, List.map_cons]
    simp only [lenS, List.map_cons, List.sum_cons]
    rw [g1]
theorem flat64_inj : ∀ (a b : List (List Int)), (∀ p ∈ a, p.length = 64) → (∀ p ∈ b, p.length = 64) → a.flatten = b.flatten → a = b := by
 intro a
 induction a with
 | nil =>
  intro b _ hb h
  cases b with
  | nil => rfl
  | cons q b =>
   have := congrArg List.length h
   rw [List.flatten_cons, List.length_append, hb q List.mem_cons_self] at this
   have h0 : ([] : List (List Int)).flatten.length = 0 := rfl
   omega
 | cons p a ih =>
  intro b ha hb h
  cases b with
  | nil =>
   have := congrArg List.length h
   rw [List.flatten_cons, List.length_append, ha p List.mem_cons_self] at this
   simp at this
  | cons q b =>
   have h1 := ha p List.mem_cons_self
   have h2 := hb q List.mem_cons_self
   rw [List.flatten_cons, List.flatten_cons] at h
   obtain ⟨e1, e2⟩ := List.append_inj h (by omega)
   rw [e1, ih b (fun x hx => ha x (List.mem_cons_of_mem _ hx)) (fun x hx => hb x (List.mem_cons_of_mem _ hx)) e2]
theorem flat_take : ∀ (l : List (List Int)) (i : Nat), (∀ p ∈ l, p.length = 64) → (l.take i).flatten = l.flatten.take (i * 64) := by
 intro l
 induction l with
 | nil => intro i _; simp
 | cons p l ih =>
  intro i hp
  have h64 := hp p List.mem_cons_self
  cases i with
  | zero => simp
  | succ i =>
   rw [List.take_succ_cons, List.flatten_cons, List.flatten_cons, ih i (fun q hq => hp q (List.mem_cons_of_mem _ hq)), List.take_append, show (i + 1) * 64 - p.length = i * 64 by omega, List.take_of_length_le (l := p) (by omega)]
theorem opened_lg {D : Dk} (hs : ∀ p ∈ D.seen, p.length = 64) : lenS (recsD D) = atD D ∧ atD D ≤ D.seen.length ∧ Lg (openD D) D.seen.length (recsD D) ∧ (openD D).waits = [] ∧ (openD D).sure = (openD D).seen ∧ (openD D).seen = D.seen.take (atD D) ++ zs (D.seen.length - atD D) := by
 obtain ⟨h1, h2, h3⟩ := parse_frames (D.seen.flatten.length + 1) D.seen.flatten (by omega)
 have hfl : D.seen.flatten.length = D.seen.length * 64 := by
  have : ∀ l : List (List Int), (∀ p ∈ l, p.length = 64) → l.flatten.length = l.length * 64 := by
   intro l
   induction l with
   | nil => intro _; rfl
   | cons p l ih => intro hp; rw [List.flatten_cons, List.length_append, ih (fun q hq => hp q (List.mem_cons_of_mem _ hq)), hp p List.mem_cons_self, List.length_cons]; omega
  exact this _ hs
 have hp := (parse_facts (D.seen.flatten.length + 1) D.seen.flatten).1
 have hat : atD D ≤ D.seen.length := by
  show secs (parse (D.seen.flatten.length + 1) D.seen.flatten) ≤ _
  omega
 have e1 : lenS (recsD D) = atD D := h3
 have e2 : D.seen.take (atD D) = fsecs (recsD D) := by
  refine flat64_inj _ _ (fun p hp => hs p (List.mem_of_mem_take hp)) (fsecs_64 _) ?_
  rw [flat_take _ _ hs]
  exact h2.symm
 rw [openD_is hs hat]
 refine ⟨e1, hat, ⟨by rw [e2, e1], by rw [e1]; exact hat, fun r hr => ?_⟩, rfl, rfl, rfl⟩
 obtain ⟨p, hp, rfl⟩ := List.mem_map.1 hr
 exact (h1 p hp).2
end Go.Proofs.YticnjkdaccacaaaGreatDoor.Sx
end
section
namespace Go.Proofs.YticnjkdaccacaaaGreatDoor.Base
open Go Go.RowKit Go.ChangeShapes Go.WideShapes
namespace Rdr
def smT {α : Type} : α → Prop := fun _ => True
def smL {α : Type} (s : α → Prop) : List α → Prop := fun l => l.length ≤ 140737488351232 ∧ ∀ y ∈ l, s y
def smA {α : Type} (s : α → Prop) : List α → Prop := fun l => ∀ y ∈ l, s y
def smP {α β : Type} (s : α → Prop) (t : β → Prop) : α × β → Prop := fun x => s x.1 ∧ t x.2
def OfS (P : Program) (t : TypeId) {α : Type} (r : Rdr α) (s : α → Prop) : Prop :=
 P.cellsOf t = r.sz ∧ ∀ (H : Type) (enc : TypeId × Value → H) (w : World) (base : Nat) (spare : Nat → Bool) (held : Bool) (fuel : Nat) (cs : List Value) (x : DataW H × List MemPlace),
  DataW.trod enc P w base spare held fuel t cs = some x → ∃ y, r.R w cs y ∧ ((∀ n ∈ x.1.weights P t, n ≤ reachBytes) → s y)
section
variable {P : Program} {t : TypeId}
theorem ofS {α : Type} {r : Rdr α} (h : Of P t r) : OfS P t r smT := ⟨h.1, fun H enc w base spare held fuel cs x hx => by
 obtain ⟨y, hy⟩ := h.2 H enc w base spare held fuel cs x hx
 exact ⟨y, hy, fun _ => trivial⟩⟩
theorem all_mem {H : Type} {e : TypeId} : ∀ {l : List (DataW H)} {d : DataW H}, d ∈ l → ∀ n ∈ d.weights P e, n ∈ DataW.weightsAll P e l := by
 intro l
 induction l with
 | nil => intro d hd; cases hd
 | cons c l ih =>
  intro d hd n hn
  simp only [DataW.weightsAll, List.mem_append]
  rcases List.mem_cons.1 hd with rfl | hd
  ·exact .inl hn
  ·exact .inr (ih hd n hn)
theorem ofS_sl {α : Type} {r : Rdr α} {s : α → Prop} {e : TypeId} (ht : P.underlying t = some (.slice e)) (hc : P.cellsOf t = 1) (he : OfS P e r s) {B : Nat} (hB : P.bytesOf e = B) (hB0 : 0 < B) : OfS P t (sl r) (smL s) := by
 refine ⟨hc, fun H enc w base spare held fuel cs x h => ?_⟩
 rcases Deep.open_slice ht h with ⟨rfl, _⟩ | ⟨a, len, cap, m, n, D, Pl, rfl, hb, hl, hm, hmm, hxe, hx⟩
 ·exact ⟨[], ⟨none, 0, rfl, Nat.le_refl _, Nat.zero_le _, fun h => absurd rfl h⟩, fun _ => ⟨Nat.zero_le _, fun y hy => by cases hy⟩⟩
 ·rw [he.1] at hx
  have hlm : len ≤ m := by rw [hmm]; split <;> omega
  have hex : ∀ i, i < len → ∃ y c, w.cells? base (a.add (i * r.sz)) r.sz = some c ∧ r.R w c y ∧ ((∀ n ∈ (D i).weights P e, n ≤ reachBytes) → s y) := by
   intro i hi
   obtain ⟨c, h1, h2⟩ := hx i (by omega)
   obtain ⟨y, hy, hs⟩ := he.2 H enc w base spare held n _ _ h2
   exact ⟨y, c, h1, hy, hs⟩
  obtain ⟨f, hf⟩ : ∃ f : Fin len → α, ∀ i : Fin len, ∃ c, w.cells? base (a.add (i.val * r.sz)) r.sz = some c ∧ r.R w c (f i) ∧ ((∀ n ∈ (D i.val).weights P e, n ≤ reachBytes) → s (f i)) :=
   ⟨fun i => (hex i.val i.isLt).choose, fun i => (hex i.val i.isLt).choose_spec⟩
  refine ⟨List.ofFn f, ⟨some a, cap, by simp, by simp; exact hl, hm, fun hne => ⟨a, rfl, fun hp => ?_, fun i y hy => ?_⟩⟩, fun hw => ⟨?_, fun y hy => ?_⟩⟩
  ·have hpos : 0 < len := by
    rcases Nat.eq_zero_or_pos len with h0 | h0
    ·subst h0; simp at hne
    ·exact h0
   obtain ⟨c, h1, h2, _⟩ := hf ⟨0, hpos⟩
   obtain ⟨_, hlen, hcell⟩ := World.cells?_some h1
   have h3 := hcell 0 (by omega)
   rw [List.getElem?_eq_getElem (by omega)] at h3
   have h4 := World.block_lt_of_cell? w _ h3
   rw [add_block, add_block] at h4
   exact h4
  ·have hi : i < len := by
    have := (List.getElem?_eq_some_iff.1 hy).1; simpa using this
   have h2 := (List.getElem?_eq_some_iff.1 hy).2
   rw [List.getElem_ofFn] at h2
   obtain ⟨c, h3, h4, _⟩ := hf ⟨i, hi⟩
   rw [h2] at h4
   refine ⟨c, h4, fun j u hu => ?_⟩
   obtain ⟨_, hlen, hcell⟩ := World.cells?_some h3
   have hj : j < r.sz := by have := (List.getElem?_eq_some_iff.1 hu).1; omega
   have h5 := hcell j hj
   rw [add_add] at h5
   rw [h5]; exact hu
  ·rw [List.length_ofFn]
   subst hxe
   have h1 := hw ((((List.range len).map D).length + ((List.range (m - len)).map fun j => D (len + j)).length) * P.bytesOf e) (by simp only [DataW.weights, ht]; exact List.mem_cons_self)
   rw [List.length_map, List.length_range, hB] at h1
   have h2 : len * 1 ≤ (len + ((List.range (m - len)).map fun j => D (len + j)).length) * B := Nat.mul_le_mul (Nat.le_add_right _ _) hB0
   have h3 : reachBytes ≤ 140737488351232 := by decide
   omega
  ·obtain ⟨i, hi, rfl⟩ := List.getElem_of_mem hy
   rw [List.length_ofFn] at hi
   rw [List.getElem_ofFn]
   obtain ⟨c, _, _, h4⟩ := hf ⟨i, hi⟩
   refine h4 fun n hn => hw n ?_
   subst hxe
   simp only [DataW.weights, ht]
   exact List.mem_cons_of_mem _ (List.mem_append_left _ (all_mem (List.mem_map.2 ⟨i, List.mem_range.2 hi, rfl⟩) n hn))
def OfFS (P : Program) (fs : List Field) (off : Nat) {α : Type} (r : Rdr α) (s : α → Prop) : Prop :=
 ∀ (H : Type) (enc : TypeId × Value → H) (w : World) (base : Nat) (spare : Nat → Bool) (held : Bool) (fuel : Nat) (cs : List Value) (xs : List (DataW H × List MemPlace)),
  cs.length = off + r.sz → (fs.mapM fun f => DataW.trod enc P w base spare held fuel f.type ((cs.drop f.offset).take (P.cellsOf f.type))) = some xs → ∃ y, r.R w (cs.drop off) y ∧ ((∀ n ∈ DataW.weightsEach P (fs.map (·.type)) (xs.map (·.1)), n ≤ reachBytes) → s y)
theorem ofFS_nil (off : Nat) : OfFS P [] off unit smT := by
 intro H enc w base spare held fuel cs xs hl _
 exact ⟨(), List.drop_eq_nil_of_le (by rw [hl]; exact Nat.le_refl _), fun _ => trivial⟩
theorem ofFS_cons {α β : Type} {r : Rdr α} {s : Rdr β} {f : Field} {fs : List Field} {off : Nat} {s1 : α → Prop} {s2 : β → Prop} (hf : f.offset = off) (hr : OfS P f.type r s1) (hs : OfFS P fs (off + r.sz) s s2) : OfFS P (f :: fs) off (pair r s) (smP s1 s2) := by
 intro H enc w base spare held fuel cs xs hl h
 have hl' : cs.length = off + (r.sz + s.sz) := hl
 simp only [List.mapM_cons, Option.bind_eq_bind, Option.bind_eq_some_iff] at h
 obtain ⟨x, h1, ys, h2, h3⟩ := h
 injection h3 with h3
 rw [hf, hr.1] at h1
 obtain ⟨a, ha, ha2⟩ := hr.2 H enc w base spare held fuel _ _ h1
 obtain ⟨b, hb, hb2⟩ := hs H enc w base spare held fuel cs ys (by omega) h2
 refine ⟨(a, b), ⟨(cs.drop off).take r.sz, cs.drop (off + r.sz), ?_, ha, hb⟩, fun hw => ⟨ha2 fun n hn => hw n ?_, hb2 fun n hn => hw n ?_⟩⟩
 ·rw [← List.drop_drop, List.take_append_drop]
 ·rw [← h3]
  simp only [List.map_cons, DataW.weightsEach, List.mem_append]
  exact .inl hn
 ·rw [← h3]
  simp only [List.map_cons, DataW.weightsEach, List.mem_append]
  exact .inr hn
theorem ofS_st {α : Type} {r : Rdr α} {s : α → Prop} {fs : Array Field} (ht : P.underlying t = some (.struct fs)) (hc : P.cellsOf t = r.sz) (hF : OfFS P fs.toList 0 r s) : OfS P t r s := by
 refine ⟨hc, fun H enc w base spare held fuel cs x h => ?_⟩
 cases fuel with
 | zero => simp [DataW.trod] at h
 | succ n =>
  unfold DataW.trod at h
  rw [ht] at h
  simp only at h
  split at h
  ·rename_i hl
   simp only [Option.map_eq_some_iff] at h
   obtain ⟨xs, hxs, hx⟩ := h
   obtain ⟨y, hy, hy2⟩ := hF H enc w base spare held n cs xs (by rw [hl, hc]; omega) hxs
   refine ⟨y, by simpa using hy, fun hw => hy2 fun k hk => hw k ?_⟩
   rw [← hx]
   simp only [DataW.weights, ht]
   exact hk
  ·cases h
theorem ofS_slice_arg {α : Type} {r : Rdr α} {s : List α → Prop} {H : Type} {enc : TypeId × Value → H} {w : World} {base : Nat} {spare : Nat → Bool} {held : Bool} {A : Option Addr} {len cap : Nat} {d : DataW H} {ps : List MemPlace} {ts : List TypeId} {ds : List (DataW H)} {j : Nat}
  (hsz : (DataW.weightsEach P ts ds).all (· ≤ reachBytes) = true) (hj : ts[j]? = some t) (hd' : ds[j]? = some d) (h : OfS P t (sl r) s) (hd : DataW.Trod enc P w base spare held t (.slice A len cap) d ps) :
  ∃ l : List α, l.length = len ∧ len ≤ cap ∧ cap ≤ maxLen ∧ Row r w A l ∧ s l := by
 obtain ⟨fuel, hf⟩ := hd
 obtain ⟨l, ⟨A', cap', e, h1, h2, h3⟩, h4⟩ := h.2 H enc w base spare held fuel _ _ hf
 simp only [Value.cells, List.cons.injEq, and_true] at e
 injection e with e1 e2 e3
 subst e1 e2 e3
 exact ⟨l, rfl, h1, h2, h3, h4 fun n hn => of_decide_eq_true (List.all_eq_true.1 hsz n (DataW.weights_mem_each hj hd' n hn))⟩
theorem ofS_agg_arg {α : Type} {r : Rdr α} {s : α → Prop} {H : Type} {enc : TypeId × Value → H} {w : World} {base : Nat} {spare : Nat → Bool} {held : Bool} {cs : Array Value} {d : DataW H} {ps : List MemPlace} {ts : List TypeId} {ds : List (DataW H)} {j : Nat}
  (hsz : (DataW.weightsEach P ts ds).all (· ≤ reachBytes) = true) (hj : ts[j]? = some t) (hd' : ds[j]? = some d) (h : OfS P t r s) (hd : DataW.Trod enc P w base spare held t (.agg cs) d ps) :
  ∃ x : α, r.R w cs.toList x ∧ s x := by
 obtain ⟨fuel, hf⟩ := hd
 obtain ⟨y, h1, h2⟩ := h.2 H enc w base spare held fuel _ _ hf
 exact ⟨y, h1, h2 fun n hn => of_decide_eq_true (List.all_eq_true.1 hsz n (DataW.weights_mem_each hj hd' n hn))⟩
end
end Rdr
end Go.Proofs.YticnjkdaccacaaaGreatDoor.Base
end
section
namespace Go.Proofs.YticnjkdaccacaaaGreatDoor.Pl
open Go Go.RowKit Sx Base _root_.Go.Proofs.YticnjkdaccacaaaGreatDoor.Own Disk Bytes
theorem good_wrs : ∀ (k : Nat) (D : Dk) (x : Nat) (b : List Int), Sx.Good D → Bts b → Sx.Good (wrs D x k b) ∧ (wrs D x k b).seen.length = D.seen.length ∧ (wrs D x k b).waits.length ≤ D.waits.length + k := by
 intro k
 induction k with
 | zero => intro D x b G _; exact ⟨G, rfl, Nat.le_refl _⟩
 | succ k ih =>
  intro D x b G hb
  obtain ⟨h1, h2, h3⟩ := ih (D.writeR x (b.take 64)) (x + 1) (b.drop 64) (G.write x (hb.take 64)).1 (hb.drop 64)
  have h4 := writeR_len D x (b.take 64)
  have h5 := writeR_waits D x (b.take 64)
  refine ⟨h1, h2.trans h4, ?_⟩
  show (wrs (D.writeR x (b.take 64)) (x + 1) k (b.drop 64)).waits.length ≤ _
  omega
theorem good_clr (all : List Int) : ∀ (k i : Nat) (D : Dk), Sx.Good D → Sx.Good (clr all k i D) ∧ (clr all k i D).seen.length = D.seen.length := by
 intro k
 induction k with
 | zero => intro i D G; exact ⟨G, rfl⟩
 | succ k ih =>
  intro i D G
  unfold clr
  split
  ·exact ih (i + 1) D G
  ·obtain ⟨h1, h2⟩ := ih (i + 1) _ (G.write i (l := List.replicate 64 0) (Bts.zeros 64)).1
   exact ⟨h1, h2.trans (writeR_len _ _ _)⟩
theorem good_open {D : Dk} (G : Sx.Good D) : Sx.Good (openD D) ∧ (openD D).seen.length = D.seen.length ∧ (openD D).waits = [] := by
 obtain ⟨h1, h2⟩ := good_clr D.seen.flatten (D.seen.length - atD D) (atD D) D G
 exact ⟨h1.sync.1, h2, rfl⟩
structure Inv (n L : Nat) (x : Int) (D : Dk) : Prop where
 good : Sx.Good D
 len : D.seen.length = n
 wts : D.waits.length ≤ L
 pos : 0 ≤ x ∧ x ≤ (n : Int)
section
variable {n L : Nat} {x : Int} {D : Dk}
theorem Inv.more {L' : Nat} (I : Inv n L x D) (h : L ≤ L') : Inv n L' x D := ⟨I.good, I.len, Nat.le_trans I.wts h, I.pos⟩
theorem Inv.add (I : Inv n L x D) {l : List Int} (hb : Bts l) : Inv n (L + 300) (addXI D x l) (addDI D x l) := by
 have h3 := I.pos
 unfold addXI addDI addX addD
 by_cases h : addE D x.toNat l = 0
 ·rw [if_pos h, if_pos h]
  have h16 : ¬ 16384 < l.length ∧ ¬ D.seen.length < x.toNat + Frames.nsec l.length := by
   unfold addE at h
   by_cases h1 : 16384 < l.length
   ·rw [if_pos h1] at h; cases h
   ·rw [if_neg h1] at h
    by_cases h2 : D.seen.length < x.toNat + Frames.nsec l.length
    ·rw [if_pos h2] at h; cases h
    ·exact ⟨h1, h2⟩
  have hns : Frames.nsec l.length ≤ 300 := by unfold Frames.nsec; omega
  obtain ⟨g1, g2, g3⟩ := good_wrs (Frames.nsec l.length) D x.toNat (Frames.put l) I.good (Frames.put_bts hb)
  have := I.wts
  have := I.len
  exact ⟨g1, g2.trans I.len, by omega, by omega⟩
 ·rw [if_neg h, if_neg h]
  exact ⟨I.good, I.len, Nat.le_trans I.wts (by omega), by omega⟩
theorem Inv.sync (I : Inv n L x D) : Inv n L x D.sync := ⟨I.good.sync.1, I.len, Nat.zero_le _, I.pos⟩
theorem Inv.fail (I : Inv n L x D) {keep torn : Int} (h : 0 ≤ keep ∧ keep ≤ 18446744073709551615) : Inv n L x (D.fail keep torn) := by
 refine ⟨(I.good.fail h).1, ?_, Nat.zero_le _, I.pos⟩
 exact (failK_pc I.good.ok keep torn D.waits.length).1.trans I.len
theorem Inv.write (I : Inv n L x D) (y : Int) {l : List Int} (hb : Bts l) : Inv n (L + 1) x (D.writeR y l) :=
 ⟨(I.good.write y hb).1, (writeR_len _ _ _).trans I.len, Nat.le_trans (writeR_waits _ _ _) (Nat.succ_le_succ I.wts), I.pos⟩
theorem Inv.open (I : Inv n L x D) : Inv n 0 (atD D : Nat) (openD D) ∧ (recsD D).length ≤ n ∧ (∀ l ∈ recsD D, l.length ≤ 16384) := by
 obtain ⟨g1, g2, g3⟩ := good_open I.good
 obtain ⟨o1, o2, o3, -⟩ := opened_lg (D := D) fun p hp => (I.good.ok.seen p hp).1
 have h1 := (parse_facts (D.seen.flatten.length + 1) D.seen.flatten).2
 have h2 : (recsD D).length ≤ atD D := by unfold recsD atD; rw [List.length_map]; exact h1
 have hl := I.len
 exact ⟨⟨g1, g2.trans I.len, by rw [g3]; exact Nat.le_refl _, by omega, by omega⟩, by omega, o3.recs⟩
end
abbrev Ac := Int × List Int × Int × Int × Unit
theorem great_l1 (l : List Ac) (hb : ∀ y ∈ l, y.2.1.length ≤ 140737488351232) : ∀ (d k i : Nat) (x : Int), i + d = l.length → d < k → i ≤ 50000 → 0 ≤ x ∧ (i : Int) ≤ x ∧ x ≤ 40000 → (∀ j (hj : j < l.length), j < i → l[j].2.1.length ≤ 40000) → ∃ r, great.l1 k l x i = some r ∧ (r = false → l.length ≤ 100 ∧ ∀ j (hj : j < l.length), l[j].2.1.length ≤ 40000) := by
 intro d
 induction d with
 | zero =>
  intro k i x hi hk hib hx ha
  obtain ⟨k, rfl⟩ : ∃ q, k = q + 1 := ⟨k - 1, by omega⟩
  rw [great.l1, iff_ (df (by omega)), lt_is rfl]
  refine ⟨_, rfl, fun hr => ⟨?_, fun j hj => ha j hj (by omega)⟩⟩
  have := of_decide_eq_false hr
  omega
 | succ d ih =>
  intro k i x hi hk hib hx ha
  obtain ⟨k, rfl⟩ : ∃ q, k = q + 1 := ⟨k - 1, by omega⟩
  have hlt : i < l.length := by omega
  have hg : l.getD (Int.toNat (i : Int)) default = l[i] := by rw [Int.toNat_natCast, List.getD_eq_getElem?_getD, List.getElem?_eq_getElem hlt]; rfl
  have hbi := hb l[i] (List.getElem_mem hlt)
  rw [great.l1, ift (dt (by omega)), if_pos ⟨by omega, by omega⟩, hg, lt_is rfl, w64 (x := x + 1) (by omega) (by omega), w64 (by omega) (by omega), lt_is rfl]
  by_cases h : x + 1 + (l[i].2.1.length : Int) > 40000
  ·rw [ift (dt h)]
   exact ⟨true, rfl, fun e => by cases e⟩
  ·rw [iff_ (df h), w64s (by omega)]
   refine ih k (i + 1) _ (by omega) (by omega) (by omega) ⟨by omega, by omega, by omega⟩ fun j hj hji => ?_
   by_cases hj2 : j = i
   ·subst hj2; omega
   ·exact ha j hj (by omega)
section
variable {kl1 : Int → Int → Dk → Int → Dk → Int → Option Bool} {y : Ac} {i n L : Nat} {x b : Int} {D : Dk}
theorem play_j1 (hy : y.2.1.length ≤ 40000) (hb : b < 10000000) (hi : i ≤ 1000) : WallsPlay.j1 kl1 y i x D x D b = kl1 (b + 1) x D x D ((i + 1 : Nat) : Int) := by
 unfold WallsPlay.j1
 rw [lt_is rfl, iff_ (bne_no rfl), if_pos (by omega), if_pos ⟨by omega, by omega⟩, w64s (by omega)]
theorem shortL_yes {ls : List (List Int)} (h : ∀ l ∈ ls, l.length ≤ 16384) : shortL ls = true := by
 unfold shortL
 rw [List.all_eq_true]
 exact fun l hl => decide_eq_true (Nat.le_trans (h l hl) (by decide))
theorem play_j3 (I : Inv n L x D) (hL : L ≤ 100000) (hn : n ≤ 300) (hy : y.2.1.length ≤ 40000) (hb : 0 ≤ b ∧ b ≤ 1000000) (hi : i ≤ 1000) : WallsPlay.j3 kl1 b y i D D = kl1 (b + ((recsD D).length : Nat) + 1) (atD D : Nat) (openD D) (atD D : Nat) (openD D) ((i + 1 : Nat) : Int) := by
 obtain ⟨-, h2, h3⟩ := I.open
 have hw := I.wts
 have hl := I.len
 have hs := shortL_yes h3
 unfold WallsPlay.j3
 rw [if_pos (by omega), lt_is rfl, lt_is rfl, lt_is rfl, if_pos ⟨by omega, by omega⟩, lt_is rfl, lt_is rfl, lt_is rfl, if_pos ⟨by omega, hs, hs⟩, lt_is rfl, iff_ (by simp), if_pos ⟨fun l hl => Nat.le_trans (h3 l hl) (by decide), by omega, by omega⟩]
 exact play_j1 hy (by omega) hi
theorem play_j2 (I : Inv n L x D) (hL : L ≤ 90000) (hy : y.2.1.length ≤ 40000) (hbt : Bts y.2.1) : ∃ D', Inv n (L + 1) x D' ∧ WallsPlay.j2 kl1 y b i D D = WallsPlay.j3 kl1 b y i D' D' := by
 have hw := I.wts
 unfold WallsPlay.j2
 by_cases h : Int.tmod y.1 7 = 5
 ·refine ⟨_, I.write y.2.2.1 hbt, ?_⟩
  rw [ift (beq_yes h), if_pos ⟨by omega, by omega⟩, lt_is rfl, if_pos (by omega), lt_is rfl, lt_is rfl, iff_ (bne_no rfl)]
 ·exact ⟨D, I.more (Nat.le_succ _), by rw [iff_ (beq_no h)]⟩
end
theorem play_l2 {D : Dk} {n : Nat} (hn : D.seen.length = n) (hn2 : n ≤ 300) (ok : D.ok) (hw : D.waits.length ≤ 1000000) : ∀ (d k i : Nat), n ≤ i + d → i ≤ n + 50 → d < k → WallsPlay.l2 k (n : Int) D D (i : Int) = some true := by
 intro d
 induction d with
 | zero =>
  intro k i hi hi2 hk
  obtain ⟨k, rfl⟩ : ∃ q, k = q + 1 := ⟨k - 1, by omega⟩
  rw [WallsPlay.l2, iff_ (df (by omega))]
 | succ d ih =>
  intro k i hi hi2 hk
  obtain ⟨k, rfl⟩ : ∃ q, k = q + 1 := ⟨k - 1, by omega⟩
  rw [WallsPlay.l2]
  by_cases h : i < n
  ·have h64 : (D.seen.getD i []).length = 64 := (seen_pc ok (by omega)).1
   have e : IntKind.wrap .i64 (IntKind.wrap .i64 ((i : Int) + 1) + IntKind.wrap .i64 (Int.tdiv (n : Int) 30)) = ((i + 1 + n / 30 : Nat) : Int) := by
    rw [Int.tdiv_eq_ediv_of_nonneg (by omega), w64 (x := (i : Int) + 1) (by omega) (by omega), w64 (x := (n : Int) / 30) (by omega) (by omega), w64 (by omega) (by omega)]
    omega
   rw [ift (dt (by omega)), if_pos ⟨by omega, by omega⟩, lt_is rfl, if_pos ⟨⟨by omega, by omega⟩, hw⟩, lt_is rfl, Int.toNat_natCast, if_pos ⟨by omega, by omega⟩, lt_is rfl, iff_ (by simp), e, lt_is rfl]
   exact ih k _ (by omega) (by omega) (by omega)
  ·rw [iff_ (df (by omega))]
theorem play_l1 (l : List Ac) (hl : l.length ≤ 100) {n : Nat} (hn : n ≤ 300) {sz : Int} (hsz : sz = (n : Int)) (hsm : ∀ j (hj : j < l.length), l[j].2.1.length ≤ 40000 ∧ Bts l[j].2.1 ∧ 0 ≤ l[j].2.2.2.1 ∧ l[j].2.2.2.1 ≤ 18446744073709551615) : ∀ (d k i : Nat) (b x : Int) (D : Dk), i + d = l.length → d + 500 < k → 0 ≤ b ∧ b ≤ 302 * i → Inv n (302 * i) x D → WallsPlay.l1 k l sz b x D x D i = some true := by
 intro d
 induction d with
 | zero =>
  intro k i b x D hi hk hb I
  obtain ⟨k, rfl⟩ : ∃ q, k = q + 1 := ⟨k - 1, by omega⟩
  have hw := I.wts
  rw [WallsPlay.l1, iff_ (df (by omega)), hsz]
  exact play_l2 I.len hn I.good.ok (by omega) n k 0 (by omega) (by omega) (by omega)
 | succ d ih =>
  intro k i b x D hi hk hb I
  obtain ⟨k, rfl⟩ : ∃ q, k = q + 1 := ⟨k - 1, by omega⟩
  have hlt : i < l.length := by omega
  have hg : l.getD (Int.toNat (i : Int)) default = l[i] := by rw [Int.toNat_natCast, List.getD_eq_getElem?_getD, List.getElem?_eq_getElem hlt]; rfl
  obtain ⟨s1, s2, s3⟩ := hsm i hlt
  rw [WallsPlay.l1, ift (dt (by omega)), if_pos ⟨by omega, by omega⟩, hg]
  generalize l[i] = y at s1 s2 s3
  have hw := I.wts
  have hp := I.pos
  have next : ∀ {L : Nat} {x' : Int} {D' : Dk} (b' : Int), 0 ≤ b' ∧ b' + 1 ≤ 302 * (i + 1) → L ≤ 302 * (i + 1) → Inv n L x' D' → WallsPlay.j1 (WallsPlay.l1 k l sz) y i x' D' x' D' b' = some true := fun b' hb' hL I' => by
   rw [play_j1 s1 (by omega) (by omega)]
   exact ih k (i + 1) _ _ _ (by omega) (by omega) (by omega) (I'.more hL)
  have gj : ∀ {L : Nat} {x' : Int} {D' : Dk}, L ≤ 302 * i → Inv n L x' D' → WallsPlay.j2 (WallsPlay.l1 k l sz) y b i D' D' = some true := fun hL I' => by
   obtain ⟨D2, I2, e2⟩ := play_j2 (kl1 := (WallsPlay.l1 k l sz)) (b := b) (i := i) I' (by omega) s1 s2
   obtain ⟨o1, o2, -⟩ := I2.open
   rw [e2, play_j3 I2 (by omega) hn s1 (by omega) (by omega)]
   exact ih k (i + 1) _ _ _ (by omega) (by omega) (by omega) (o1.more (by omega))
  have e4 : @WallsPlay.j4 = @WallsPlay.j2 := rfl
  have e6 : @WallsPlay.j6 = @WallsPlay.j2 := rfl
  have e8 : @WallsPlay.j8 = @WallsPlay.j2 := rfl
  have e10 : @WallsPlay.j10 = @WallsPlay.j2 := rfl
  have e12 : @WallsPlay.j12 = @WallsPlay.j2 := rfl
  have gA : (if (0 ≤ x ∧ x ≤ 4096) ∧ List.length D.waits ≤ 100000000 ∧ List.length y.2.1 ≤ 1000000000 then (lt (addEI D x y.2.1) fun y57 => (lt (addXI D x y.2.1) fun x58 => (lt (addDI D x y.2.1) fun D59 => (if (0 ≤ x ∧ x ≤ 4096) ∧ List.length D.waits ≤ 900000 then (lt (addEI D x y.2.1) fun y60 => (lt (addXI D x y.2.1) fun x61 => (lt (addDI D x y.2.1) fun D62 => (if (y57 != y60) = true then none else (WallsPlay.j1 (WallsPlay.l1 k l sz) y i x61 D62 x58 D59 b))))) else none)))) else none) = some true := by
   rw [if_pos ⟨⟨by omega, by omega⟩, by omega, by omega⟩, lt_is rfl, lt_is rfl, lt_is rfl, if_pos ⟨⟨by omega, by omega⟩, by omega⟩, lt_is rfl, lt_is rfl, lt_is rfl, iff_ (bne_no rfl)]
   exact next b (by omega) (by omega) (I.add s2)
  have gS : (lt (Dk.sync D) fun D63 => (if List.length D.waits ≤ 1000000 then (lt (Dk.sync D) fun D64 => (WallsPlay.j1 (WallsPlay.l1 k l sz) y i x D64 x D63 b)) else none)) = some true := by
   rw [lt_is rfl, if_pos (by omega), lt_is rfl]
   exact next b (by omega) (by omega) I.sync
  have gR : (if 0 ≤ x ∧ x ≤ 1000000 then (lt (roomF D x y.2.2.1) fun y91 => (if 0 ≤ x ∧ x ≤ 1000000 then (lt (roomF D x y.2.2.1) fun y92 => (if (!(y91 == y92)) = true then none else (WallsPlay.j1 (WallsPlay.l1 k l sz) y i x D x D b))) else none)) else none) = some true := by
   rw [if_pos ⟨by omega, by omega⟩, lt_is rfl, if_pos ⟨by omega, by omega⟩, lt_is rfl, iff_ (by simp)]
   exact next b (by omega) (by omega) I
  have htn : (-1 : Int) ≤ (if y.2.2.1 > (-1 : Int) then y.2.2.1 else (-1 : Int)) := by split <;> omega
  have gF : (if (List.length D.waits ≤ 1000000 ∧ (-1 : Int) ≤ (if y.2.2.1 > (-1 : Int) then y.2.2.1 else (-1 : Int))) then (lt (Dk.fail D y.2.2.2.1 (if y.2.2.1 > (-1 : Int) then y.2.2.1 else (-1 : Int))) fun D88 => (if (-1 : Int) ≤ (if y.2.2.1 > (-1 : Int) then y.2.2.1 else (-1 : Int)) ∧ List.length D.waits ≤ 1000000 then (lt (Dk.fail D y.2.2.2.1 (if y.2.2.1 > (-1 : Int) then y.2.2.1 else (-1 : Int))) fun D89 => (WallsPlay.j2 (WallsPlay.l1 k l sz) y b i D89 D88)) else none)) else none) = some true := by
   rw [if_pos ⟨by omega, htn⟩, lt_is rfl, if_pos ⟨htn, by omega⟩, lt_is rfl]
   exact gj (Nat.le_refl _) (I.fail s3)
  rw [lt_is rfl, if_pos (by omega), e4, e6, e8, e10, e12, gA, gS, gR, gF, gj (Nat.le_refl _) I]
  simp only [ite_self]
theorem act_facts {y : Ac} (h : ∃ w cs, (Rdr.pair (Rdr.int .u8) (Rdr.pair (Rdr.sl (Rdr.int .u8)) (Rdr.pair (Rdr.int .i64) (Rdr.pair (Rdr.int .u64) Rdr.unit)))).R w cs y) : Bts y.2.1 ∧ 0 ≤ y.2.2.2.1 ∧ y.2.2.2.1 ≤ 18446744073709551615 := by
 obtain ⟨w, cs, c1, d1, rfl, -, c2, d2, rfl, h2, c3, d3, rfl, -, c4, d4, rfl, h4, -⟩ := h
 obtain ⟨A, c, -, -, -, hr⟩ := h2
 obtain ⟨-, hv⟩ := h4
 exact ⟨(rk_of_row hr).bytes, wfu64 hv⟩
theorem blank_recs (n : Nat) : recsD (Disk.blank n) = [] := (Lg.start n).told
theorem WallsPlay_pure (a0 : Int) (l1 : List (Int × List (Int) × Int × Int × Unit)) (v0 : (Lit.int .u16 a0).wf = true) (z1 : (Rdr.smL (Rdr.smP Rdr.smT (Rdr.smP (Rdr.smL Rdr.smT) (Rdr.smP Rdr.smT (Rdr.smP Rdr.smT Rdr.smT))))) l1) (v1 : ∀ x ∈ l1, ∃ w cs, (Rdr.pair (Rdr.int .u8) (Rdr.pair (Rdr.sl (Rdr.int .u8)) (Rdr.pair (Rdr.int .i64) (Rdr.pair (Rdr.int .u64) Rdr.unit)))).R w cs x) : ∃ k, WallsPlay.f k a0 l1 = some true := by
 refine ⟨l1.length + 1000, ?_⟩
 have ha : 0 ≤ a0 ∧ a0 ≤ 65535 := by
  rw [wf_int] at v0
  have h1 : IntKind.u16.min = 0 := by decide
  have h2 : IntKind.u16.max = 65535 := by decide
  omega
 obtain ⟨n, hn⟩ : ∃ n : Nat, 1 + a0 % 300 = n := ⟨(1 + a0 % 300).toNat, by omega⟩
 have e1 : IntKind.wrap .i64 ((1 : Int) + (Int.tmod (IntKind.wrap .i64 a0) (300 : Int))) = (n : Int) := by
  rw [w64 (x := a0) (by omega) (by omega), tm (by omega), w64 (by omega) (by omega)]
  exact hn
 obtain ⟨r, h1, h2⟩ : ∃ r, great.f (l1.length + 1000) l1 = some r ∧ (r = false → l1.length ≤ 100 ∧ ∀ j (hj : j < l1.length), l1[j].2.1.length ≤ 40000) :=
  great_l1 l1 (fun y hy => (z1.2 y hy).2.1.1) l1.length (l1.length + 1000) 0 0 (by omega) (by omega) (by omega) ⟨by omega, by omega, by omega⟩ fun j hj h => by omega
 unfold WallsPlay.f
 rw [e1, lt_is rfl, h1, Option.bind_some]
 cases r with
 | true => rw [if_pos rfl]
 | false =>
  obtain ⟨h3, h4⟩ := h2 rfl
  have hbl : (Disk.blank n).waits.length ≤ 1000 ∧ (Disk.blank n).seen.length = n := ⟨by simp [Disk.blank], by simp [Disk.blank]⟩
  have I0 : Inv n 0 0 (Disk.blank n) := ⟨Sx.Good.blank ⟨by omega, by omega⟩, hbl.2, by simp [Disk.blank], by omega, by omega⟩
  obtain ⟨o1, -, -⟩ := I0.open
  rw [if_neg (by decide), if_pos ⟨by omega, by omega⟩, Int.toNat_natCast, lt_is rfl, if_pos ⟨by omega, by omega⟩, lt_is rfl, if_pos (by omega), lt_is rfl, lt_is rfl, lt_is rfl, if_pos ⟨by omega, by omega⟩, lt_is rfl, lt_is rfl, lt_is rfl, iff_ (bne_no (by rw [blank_recs]; rfl))]
  exact play_l1 l1 h3 (n := n) (by omega) rfl (fun j hj => ⟨h4 j hj, act_facts (v1 _ (List.getElem_mem hj))⟩) l1.length (l1.length + 1000) 0 0 _ _ (by omega) (by omega) (by omega) o1
end Go.Proofs.YticnjkdaccacaaaGreatDoor.Pl
end
section
namespace Go.Proofs.YticnjkdaccacaaaGreatDoor.Pl
open Go Go.RowKit Sx Base _root_.Go.Proofs.YticnjkdaccacaaaGreatDoor.Own Disk Bytes
theorem WallsPlay_law (a0 : Int) (A1 : Option Addr) (c1 : Nat) (l1 : List (Int × List (Int) × Int × Int × Unit)) (W : World) (v0 : (Lit.int .u16 a0).wf = true) (hc1 : l1.length ≤ c1) (hm1 : c1 ≤ maxLen) (hr1 : Rdr.Row (Rdr.pair (Rdr.int .u8) (Rdr.pair (Rdr.sl (Rdr.int .u8)) (Rdr.pair (Rdr.int .i64) (Rdr.pair (Rdr.int .u64) Rdr.unit)))) W A1 l1) (z1 : (Rdr.smL (Rdr.smP Rdr.smT (Rdr.smP (Rdr.smL Rdr.smT) (Rdr.smP Rdr.smT (Rdr.smP Rdr.smT Rdr.smT))))) l1) : Calls Tryz.prog 4 #[(.int .u16 a0), (.slice A1 l1.length c1)] W fun e w' => e = .returned (.bool true) ∧ Below W.heap.size W w' := by
 obtain ⟨k, hk⟩ := WallsPlay_pure a0 l1 v0 z1 (fun x hx => ⟨W, rs_facts hr1 x hx⟩)
 exact (WallsPlay.walk k a0 A1 c1 l1 v0 hr1 ⟨hc1, hm1⟩ (Sat.start W) hk).mono fun e w' ⟨h1, _, h3⟩ => ⟨h1, h3.below⟩
end Go.Proofs.YticnjkdaccacaaaGreatDoor.Pl
end
