/- Logs, plainly: which records are on a disk, what opening and adding do. -/
import Derived.Test.YtmpkoacpakepfaaRk
namespace Go.Proofs.Ytmpkoacpakepfaa.Sx
open Go Go.RowKit Base Own Disk Bytes

/-! ### Frames as sectors -/
def chunks : Nat → List Int → List (List Int)
  | 0, _ => []
  | k + 1, b => b.take 64 :: chunks k (b.drop 64)
def fsec (r : List Int) : List (List Int) := chunks (Frames.nsec r.length) (Frames.put r)
def fsecs (ls : List (List Int)) : List (List Int) := ls.flatMap fsec
def lenS (ls : List (List Int)) : Nat := (ls.map fun r => Frames.nsec r.length).sum
def zs (k : Nat) : List (List Int) := List.replicate k (List.replicate 64 0)
/-- Which writes these are, from a sector on. -/
def wl : Nat → List (List Int) → List (Int × List Int)
  | _, [] => []
  | x, p :: r => ((x : Int), p) :: wl (x + 1) r
theorem chunks_len : ∀ (k : Nat) (b : List Int), (chunks k b).length = k := by
  intro k
  induction k with
  | zero => intro b; rfl
  | succ k ih => intro b; rw [chunks, List.length_cons, ih]
theorem chunks_flat : ∀ (k : Nat) (b : List Int), b.length = k * 64 → (chunks k b).flatten = b := by
  intro k
  induction k with
  | zero =>
    intro b h
    have hb : b = [] := List.eq_nil_of_length_eq_zero (by omega)
    rw [hb]; rfl
  | succ k ih => intro b h; rw [chunks, List.flatten_cons, ih _ (by rw [List.length_drop]; omega), List.take_append_drop]
theorem chunks_64 : ∀ (k : Nat) (b : List Int), b.length = k * 64 → ∀ p ∈ chunks k b, p.length = 64 := by
  intro k
  induction k with
  | zero => intro b _ p hp; cases hp
  | succ k ih =>
    intro b h p hp
    rcases List.mem_cons.1 hp with rfl | hp
    · rw [List.length_take]; omega
    · exact ih _ (by rw [List.length_drop]; omega) p hp
theorem fsec_len (r : List Int) : (fsec r).length = Frames.nsec r.length := chunks_len _ _
theorem fsec_flat (r : List Int) : (fsec r).flatten = Frames.put r := chunks_flat _ _ (Frames.put_length r)
theorem fsecs_len (ls : List (List Int)) : (fsecs ls).length = lenS ls := by
  unfold fsecs lenS
  rw [List.length_flatMap]
  congr 1
  exact List.map_congr_left fun r _ => fsec_len r
theorem fsecs_snoc (ls : List (List Int)) (r : List Int) : fsecs (ls ++ [r]) = fsecs ls ++ fsec r := by simp [fsecs]
theorem lenS_snoc (ls : List (List Int)) (r : List Int) : lenS (ls ++ [r]) = lenS ls + Frames.nsec r.length := by simp [lenS]
theorem nsec_pos (n : Nat) : 1 ≤ Frames.nsec n := by unfold Frames.nsec; omega
theorem lenS_ge (ls : List (List Int)) : ls.length ≤ lenS ls := by
  induction ls with
  | nil => exact Nat.le_refl _
  | cons r ls ih =>
    have := nsec_pos r.length
    simp only [lenS, List.map_cons, List.sum_cons, List.length_cons] at *
    omega
theorem zs_flat (k : Nat) : (zs k).flatten = List.replicate (k * 64) 0 := by
  unfold zs
  rw [List.flatten_replicate_replicate]
theorem zs_add (j k : Nat) : zs j ++ zs k = zs (j + k) := by unfold zs; rw [List.replicate_append_replicate]
/-! ### What is read -/
theorem put_nil : Frames.put [] ≠ List.replicate 64 0 := by
  intro h
  have : (Frames.put []).getD 4 0 = 0 := by rw [h]; rfl
  revert this
  decide
theorem val_zeros : ∀ (k m : Nat), Frames.val (List.replicate m 0) k = 0 := by
  intro k
  induction k with
  | zero => intro m; rfl
  | succ k ih =>
    intro m
    rw [Frames.val, ih, List.getD_eq_getElem?_getD, List.getElem?_replicate]
    split <;> rfl
theorem get_zeros (m : Nat) : Frames.get (List.replicate m 0) = none := by
  unfold Frames.get
  rw [List.length_replicate, val_zeros]
  split
  · rfl
  · rw [if_neg (by decide)]
    have h0 : Frames.nsec (Int.toNat 0) * 64 = 64 := rfl
    rw [h0]
    split
    · rfl
    · rename_i h
      have e : Int.toNat 0 = 0 := rfl
      rw [if_neg]
      rw [e, List.take_zero, List.take_replicate, Nat.min_eq_left (by omega)]
      exact put_nil
theorem parse_recs : ∀ (ls : List (List Int)) (rest : List Int) (k : Nat), (∀ r ∈ ls, r.length ≤ 16384) → Frames.get rest = none → ls.length < k → parse k ((fsecs ls).flatten ++ rest) = ls.map fun r => (r, Frames.nsec r.length) := by
  intro ls
  induction ls with
  | nil =>
    intro rest k _ hg hk
    obtain ⟨k, rfl⟩ : ∃ q, k = q + 1 := ⟨k - 1, by simp only [List.length_nil] at hk; omega⟩
    show parse (k + 1) ([] ++ rest) = []
    rw [List.nil_append, parse, hg]
  | cons r ls ih =>
    intro rest k hl hg hk
    rw [List.length_cons] at hk
    obtain ⟨k, rfl⟩ : ∃ q, k = q + 1 := ⟨k - 1, by omega⟩
    have e : (fsecs (r :: ls)).flatten ++ rest = Frames.put r ++ ((fsecs ls).flatten ++ rest) := by
      rw [show fsecs (r :: ls) = fsec r ++ fsecs ls by simp [fsecs], List.flatten_append, fsec_flat, List.append_assoc]
    rw [e, parse, Frames.get_put r _ (hl r List.mem_cons_self)]
    simp only
    rw [← Frames.put_length, List.drop_left, ih rest k (fun q hq => hl q (List.mem_cons_of_mem _ hq)) hg (by omega)]
    rfl
/-! ### What is written -/
theorem pad_64 {b : List Int} (h : b.length = 64) : pad b = b := by unfold pad; rw [h]; simp
theorem writeR_in {D : Dk} {x : Nat} {b : List Int} (hx : x < D.seen.length) (hb : b.length = 64) : D.writeR x b = { D with seen := D.seen.set x b, waits := D.waits ++ [((x : Int), b)] } := by
  have hm : mayOk D.seen.length x = 0 := by unfold mayOk; rw [if_pos (by omega)]
  have hc : writeCode D.seen.length x b = 0 := by unfold writeCode; rw [hm, if_neg (by omega)]
  unfold Dk.writeR
  rw [if_pos hc, pad_64 hb]; rfl
theorem set_take {α : Type} {l : List α} {x : Nat} (hx : x < l.length) (v : α) : (l.set x v).take (x + 1) = l.take x ++ [v] := by
  rw [List.take_succ_eq_append_getElem (by rw [List.length_set]; exact hx), List.getElem_set_self, List.take_set_of_le (Nat.le_refl _)]
theorem wrs_is : ∀ (k : Nat) (D : Dk) (x : Nat) (b : List Int), b.length = k * 64 → x + k ≤ D.seen.length →
    wrs D x k b = { D with seen := D.seen.take x ++ (chunks k b ++ D.seen.drop (x + k)), waits := D.waits ++ wl x (chunks k b) } := by
  intro k
  induction k with
  | zero =>
    intro D x b _ _
    rw [wrs, chunks, wl, List.nil_append, Nat.add_zero, List.take_append_drop, List.append_nil]
  | succ k ih =>
    intro D x b hb hx
    have h64 : (b.take 64).length = 64 := by rw [List.length_take]; omega
    rw [wrs, writeR_in (by omega) h64, ih _ _ _ (by rw [List.length_drop]; omega) (by simp only [List.length_set]; omega)]
    simp only
    rw [set_take (by omega), List.drop_set_of_lt (by omega), chunks, wl, List.append_assoc, List.append_assoc, show x + 1 + k = x + (k + 1) by omega]
    rfl
/-! ### A log -/
structure Lg (D : Dk) (n : Nat) (ls : List (List Int)) : Prop where
  seen : D.seen = fsecs ls ++ zs (n - lenS ls)
  len : lenS ls ≤ n
  recs : ∀ r ∈ ls, r.length ≤ 16384
theorem Lg.size {D : Dk} {n : Nat} {ls : List (List Int)} (h : Lg D n ls) : D.seen.length = n := by
  have := h.len
  rw [h.seen, List.length_append, fsecs_len, zs, List.length_replicate]; omega
theorem Lg.found {D : Dk} {n : Nat} {ls : List (List Int)} (h : Lg D n ls) : found D = ls.map fun r => (r, Frames.nsec r.length) := by
  unfold Sx.found
  have h1 := lenS_ge ls
  have e : D.seen.flatten = (fsecs ls).flatten ++ List.replicate ((n - lenS ls) * 64) 0 := by rw [h.seen, List.flatten_append, zs_flat]
  have hl : ls.length ≤ D.seen.flatten.length := by
    have h2 : (fsecs ls).flatten.length = lenS ls * 64 := by
      have : ∀ (l : List (List Int)), (fsecs l).flatten.length = lenS l * 64 := by
        intro l
        induction l with
        | nil => rfl
        | cons r l ih =>
          rw [show fsecs (r :: l) = fsec r ++ fsecs l by simp [fsecs], List.flatten_append, List.length_append, ih, fsec_flat, Frames.put_length]
          simp only [lenS, List.map_cons, List.sum_cons]
          omega
      exact this ls
    rw [e, List.length_append]
    omega
  rw [show parse (D.seen.flatten.length + 1) D.seen.flatten = parse (D.seen.flatten.length + 1) ((fsecs ls).flatten ++ List.replicate ((n - lenS ls) * 64) 0) by rw [← e]]
  exact parse_recs ls _ _ h.recs (get_zeros _) (by omega)
theorem Lg.told {D : Dk} {n : Nat} {ls : List (List Int)} (h : Lg D n ls) : recsD D = ls := by
  unfold recsD
  rw [h.found, List.map_map]
  show ls.map (fun r => r) = ls
  exact List.map_id' ls
theorem Lg.at {D : Dk} {n : Nat} {ls : List (List Int)} (h : Lg D n ls) : atD D = lenS ls := by
  unfold atD secs
  rw [h.found, List.map_map]
  rfl
theorem add_no {D : Dk} {x : Nat} {l : List Int} (h : addE D x l ≠ 0) : addX D x l = x ∧ addD D x l = D := by
  unfold addX addD
  rw [if_neg h, if_neg h]; exact ⟨rfl, rfl⟩
theorem Lg.add {D : Dk} {n : Nat} {ls : List (List Int)} (h : Lg D n ls) {l : List Int} (hl : l.length ≤ 16384) (hf : lenS ls + Frames.nsec l.length ≤ n) :
    addE D (lenS ls) l = 0 ∧ addX D (lenS ls) l = lenS (ls ++ [l]) ∧ Lg (addD D (lenS ls) l) n (ls ++ [l]) ∧ (addD D (lenS ls) l).sure = D.sure ∧ (addD D (lenS ls) l).waits = D.waits ++ wl (lenS ls) (fsec l) := by
  have hs := h.size
  have e : addE D (lenS ls) l = 0 := by unfold addE; rw [if_neg (by omega), if_neg (by omega)]
  have hd : addD D (lenS ls) l = wrs D (lenS ls) (Frames.nsec l.length) (Frames.put l) := by unfold addD; rw [if_pos e]
  rw [hd, wrs_is _ _ _ _ (Frames.put_length l) (by omega)]
  refine ⟨e, by unfold addX; rw [if_pos e, lenS_snoc], ⟨?_, by rw [lenS_snoc]; exact hf, fun r hr => ?_⟩, rfl, rfl⟩
  · show D.seen.take (lenS ls) ++ (fsec l ++ D.seen.drop (lenS ls + Frames.nsec l.length)) = _
    have hz : (zs (n - (fsecs ls).length)).drop ((fsecs ls).length + Frames.nsec l.length - (fsecs ls).length) = zs (n - lenS (ls ++ [l])) := by
      rw [zs, zs, List.drop_replicate, lenS_snoc, fsecs_len]
      congr 1
      omega
    rw [h.seen, ← fsecs_len, List.take_left, List.drop_append, List.drop_eq_nil_of_le (by omega), List.nil_append, hz, fsecs_snoc, List.append_assoc]
  · rcases List.mem_append.1 hr with hr | hr
    · exact h.recs r hr
    · rw [List.mem_singleton] at hr; rw [hr]; exact hl
theorem Lg.full {D : Dk} {n : Nat} {ls : List (List Int)} (h : Lg D n ls) {l : List Int} (hl : l.length ≤ 16384) (hf : n < lenS ls + Frames.nsec l.length) : addE D (lenS ls) l = 5 := by
  have hs := h.size
  unfold addE; rw [if_neg (by omega), if_pos (by omega)]
theorem Lg.big (D : Dk) (x : Nat) {l : List Int} (hl : 16384 < l.length) : addE D x l = 3 := if_pos hl
theorem Lg.room {D : Dk} {n : Nat} {ls : List (List Int)} (h : Lg D n ls) (x : Int) : roomF D (lenS ls : Nat) x = decide (0 ≤ x ∧ x ≤ 16384 ∧ lenS ls + Frames.nsec x.toNat ≤ n) := by
  have hs := h.size
  have hl := h.len
  unfold roomF
  exact decide_eq_decide.2 ⟨fun ⟨a, b, c⟩ => ⟨a, b, by omega⟩, fun ⟨a, b, c⟩ => ⟨a, b, by omega⟩⟩
theorem Lg.ofSeen {D D' : Dk} {n : Nat} {ls : List (List Int)} (h : Lg D n ls) (e : D'.seen = D.seen) : Lg D' n ls := ⟨by rw [e]; exact h.seen, h.len, h.recs⟩
theorem Lg.sync {D : Dk} {n : Nat} {ls : List (List Int)} (h : Lg D n ls) : Lg D.sync n ls := h.ofSeen rfl
theorem Lg.start (n : Nat) : Lg (Disk.blank n) n [] := ⟨by show zs n = [] ++ zs (n - 0); rfl, Nat.zero_le _, fun r hr => by cases hr⟩
/-! ### Opened -/
theorem flat_sec : ∀ (l : List (List Int)) (i : Nat), (∀ p ∈ l, p.length = 64) → i < l.length → (l.flatten.drop (i * 64)).take 64 = l.getD i [] := by
  intro l
  induction l with
  | nil => intro i _ h; simp at h
  | cons p l ih =>
    intro i hp hi
    have h64 := hp p List.mem_cons_self
    cases i with
    | zero => simp [List.take_append, h64]
    | succ i =>
      rw [List.flatten_cons, show (i + 1) * 64 = p.length + i * 64 by omega, List.drop_append, show p.length + i * 64 - p.length = i * 64 by omega, List.drop_eq_nil_of_le (by omega), List.nil_append, ih i (fun q hq => hp q (List.mem_cons_of_mem _ hq)) (by simpa using hi)]
      rfl
theorem clr_seen {s : List (List Int)} (hs : ∀ p ∈ s, p.length = 64) : ∀ (k i : Nat) (D : Dk), i + k = s.length → D.seen.length = s.length → (∀ j, i ≤ j → D.seen.getD j [] = s.getD j []) → (clr s.flatten k i D).seen = D.seen.take i ++ zs k := by
  intro k
  induction k with
  | zero => intro i D h1 h2 _; rw [clr, List.take_of_length_le (by omega)]; simp [zs]
  | succ k ih =>
    intro i D h1 h2 h3
    have hi : i < D.seen.length := by omega
    have hz : ∀ k : Nat, [List.replicate 64 (0 : Int)] ++ zs k = zs (k + 1) := fun k => rfl
    rw [clr, flat_sec s i hs (by omega)]
    by_cases he : s.getD i [] = List.replicate 64 0
    · rw [if_pos he, ih (i + 1) D (by omega) h2 (fun j hj => h3 j (by omega)), List.take_succ_eq_append_getElem hi, List.append_assoc]
      have : D.seen[i] = List.replicate 64 0 := by
        have := h3 i (Nat.le_refl _)
        rw [he, List.getD_eq_getElem?_getD, List.getElem?_eq_getElem hi] at this
        exact this
      rw [this, hz]
    · rw [if_neg he, writeR_in hi (List.length_replicate), ih (i + 1) _ (by omega) (by simp only [List.length_set]; exact h2) (fun j hj => ?_)]
      · simp only
        rw [set_take hi, List.append_assoc, hz]
      · simp only
        rw [← h3 j (by omega), List.getD_eq_getElem?_getD, List.getD_eq_getElem?_getD, List.getElem?_set_ne (by omega)]
theorem openD_is {D : Dk} (hs : ∀ p ∈ D.seen, p.length = 64) (ha : atD D ≤ D.seen.length) : openD D = ⟨D.seen.take (atD D) ++ zs (D.seen.length - atD D), D.seen.take (atD D) ++ zs (D.seen.length - atD D), []⟩ := by
  unfold openD Dk.sync
  rw [clr_seen hs _ _ D (by omega) rfl (fun _ _ => rfl)]
theorem fsecs_64 (ls : List (List Int)) : ∀ p ∈ fsecs ls, p.length = 64 := by
  intro p hp
  obtain ⟨r, _, hr⟩ := List.mem_flatMap.1 hp
  exact chunks_64 _ _ (Frames.put_length r) p hr
theorem Lg.sec64 {D : Dk} {n : Nat} {ls : List (List Int)} (h : Lg D n ls) : ∀ p ∈ D.seen, p.length = 64 := by
  intro p hp
  rw [h.seen] at hp
  rcases List.mem_append.1 hp with hp | hp
  · exact fsecs_64 ls p hp
  · rw [List.eq_of_mem_replicate hp]; exact List.length_replicate
theorem Lg.opened {D : Dk} {n : Nat} {ls : List (List Int)} (h : Lg D n ls) : openD D = ⟨D.seen, D.seen, []⟩ := by
  have hs := h.size
  have hl := h.len
  rw [openD_is h.sec64 (by rw [h.at]; omega), h.at, hs]
  have e : D.seen.take (lenS ls) ++ zs (n - lenS ls) = D.seen := by rw [h.seen, ← fsecs_len, List.take_left]
  rw [e]
theorem Lg.open_ {D : Dk} {n : Nat} {ls : List (List Int)} (h : Lg D n ls) : Lg (openD D) n ls ∧ (openD D).waits = [] ∧ (openD D).sure = (openD D).seen := by
  rw [h.opened]
  exact ⟨h.ofSeen rfl, rfl, rfl⟩
end Go.Proofs.Ytmpkoacpakepfaa.Sx
