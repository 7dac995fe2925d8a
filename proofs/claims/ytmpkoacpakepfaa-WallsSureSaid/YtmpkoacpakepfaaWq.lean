/- Logs, plainly: any disk that is opened; what is left of a disk; how much records are. -/
import Derived.Test.YtmpkoacpakepfaaWp
import Derived.Test.YtmpkoacpakepfaaPh
namespace Go.Proofs.Ytmpkoacpakepfaa.Sx
open Go Go.RowKit Base Own Disk Bytes

/-! ### By whole numbers -/
theorem Lg.addI {D : Dk} {n : Nat} {ls : List (List Int)} (h : Lg D n ls) {l : List Int} (hl : l.length ≤ 16384) (hf : lenS ls + Frames.nsec l.length ≤ n) :
    addEI D (lenS ls : Nat) l = 0 ∧ addXI D (lenS ls : Nat) l = (lenS (ls ++ [l]) : Nat) ∧ Lg (addDI D (lenS ls : Nat) l) n (ls ++ [l]) ∧ (addDI D (lenS ls : Nat) l).sure = D.sure ∧ (addDI D (lenS ls : Nat) l).waits = D.waits ++ wl (lenS ls) (fsec l) := by
  obtain ⟨h1, h2, h3⟩ := h.add hl hf
  exact ⟨h1, congrArg (fun k : Nat => (k : Int)) h2, h3⟩
theorem Lg.fullI {D : Dk} {n : Nat} {ls : List (List Int)} (h : Lg D n ls) {l : List Int} (hl : l.length ≤ 16384) (hf : n < lenS ls + Frames.nsec l.length) :
    addEI D (lenS ls : Nat) l = 5 ∧ addXI D (lenS ls : Nat) l = (lenS ls : Nat) ∧ addDI D (lenS ls : Nat) l = D := by
  have h1 := h.full hl hf
  have h2 := add_no (D := D) (x := lenS ls) (l := l) (by rw [h1]; decide)
  exact ⟨h1, congrArg (fun k : Nat => (k : Int)) h2.1, h2.2⟩
theorem bigI (D : Dk) (x : Nat) {l : List Int} (hl : 16384 < l.length) : addEI D (x : Nat) l = 3 ∧ addXI D (x : Nat) l = (x : Nat) ∧ addDI D (x : Nat) l = D := by
  have h1 := Lg.big D x hl
  have h2 := add_no (D := D) (x := x) (l := l) (by rw [h1]; decide)
  exact ⟨h1, congrArg (fun k : Nat => (k : Int)) h2.1, h2.2⟩
theorem wl_len : ∀ (x : Nat) (cs : List (List Int)), (wl x cs).length = cs.length := by
  intro x cs
  induction cs generalizing x with
  | nil => rfl
  | cons p r ih => rw [wl, List.length_cons, List.length_cons, ih]
theorem wlq_app : ∀ (x : Nat) (a b : List (List Int)), wl x (a ++ b) = wl x a ++ wl (x + a.length) b := by
  intro x a
  induction a generalizing x with
  | nil => intro b; rfl
  | cons p r ih => intro b; rw [List.cons_append, wl, ih, wl, List.cons_append, List.length_cons, show x + 1 + r.length = x + (r.length + 1) by omega]
theorem wl_at : ∀ (cs : List (List Int)) (x i : Nat), (wl x cs)[i]? = (cs[i]?).map fun p => (((x + i : Nat) : Int), p) := by
  intro cs
  induction cs with
  | nil => intro x i; rfl
  | cons p r ih =>
    intro x i
    cases i with
    | zero => rfl
    | succ i =>
      rw [wl, List.getElem?_cons_succ, List.getElem?_cons_succ, ih, show x + 1 + i = x + (i + 1) by omega]
/-! ### How much there is -/
def sumL (ls : List (List Int)) : Nat := (ls.map List.length).sum
theorem rsz_le : ∀ (ls : List (List Int)) (n B : Int), B ≤ 1048576 → rsz ls n ≤ B → n + (sumL ls : Int) ≤ B := by
  intro ls
  induction ls with
  | nil => intro n B _ h; simpa [rsz, sumL] using h
  | cons x r ih =>
    intro n B hB h
    rw [rsz] at h
    split at h
    · have := ih _ B hB h
      have e : sumL (x :: r) = x.length + sumL r := by simp [sumL]
      rw [e]; omega
    · omega
theorem recSize_le {ls : List (List Int)} {B : Int} (hB : B ≤ 1048576) (h : ¬ recSize ls > B) : (ls.length : Int) + (sumL ls : Int) ≤ B := rsz_le ls _ B hB (by unfold recSize at h; omega)
theorem sum_mem {ls : List (List Int)} {x : List Int} (h : x ∈ ls) : x.length ≤ sumL ls := by
  induction ls with
  | nil => cases h
  | cons y r ih =>
    have e : sumL (y :: r) = y.length + sumL r := by simp [sumL]
    rcases List.mem_cons.1 h with rfl | h
    · omega
    · have := ih h; omega
theorem lenS_le (ls : List (List Int)) : 64 * lenS ls ≤ sumL ls + 71 * ls.length := by
  induction ls with
  | nil => exact Nat.le_refl _
  | cons r ls ih =>
    have e : sumL (r :: ls) = r.length + sumL ls := by simp [sumL]
    have e2 : lenS (r :: ls) = Frames.nsec r.length + lenS ls := by simp [lenS]
    have : 64 * Frames.nsec r.length ≤ r.length + 71 := by unfold Frames.nsec; omega
    rw [e, e2, List.length_cons]; omega
theorem sum_take (ls : List (List Int)) (k : Nat) : sumL (ls.take k) ≤ sumL ls := by
  induction ls generalizing k with
  | nil => simp
  | cons r ls ih =>
    cases k with
    | zero => exact Nat.zero_le _
    | succ k =>
      have := ih k
      have e : sumL (r :: ls) = r.length + sumL ls := by simp [sumL]
      have e2 : sumL (r :: ls.take k) = r.length + sumL (ls.take k) := by simp [sumL]
      rw [List.take_succ_cons, e, e2]; omega
theorem lenS_take (ls : List (List Int)) (k : Nat) : lenS (ls.take k) ≤ lenS ls := by
  induction ls generalizing k with
  | nil => simp
  | cons r ls ih =>
    cases k with
    | zero => exact Nat.zero_le _
    | succ k =>
      have := ih k
      have e : lenS (r :: ls) = Frames.nsec r.length + lenS ls := by simp [lenS]
      have e2 : lenS (r :: ls.take k) = Frames.nsec r.length + lenS (ls.take k) := by simp [lenS]
      rw [List.take_succ_cons, e, e2]; omega
theorem short_of {ls : List (List Int)} {n : Nat} (h : ∀ x ∈ ls, x.length ≤ n) (hn : n ≤ 1000000000) : shortL ls = true := by
  unfold shortL
  rw [List.all_eq_true]
  intro x hx
  have := h x hx
  simp; omega
/-! ### Any disk -/
theorem parse_frames : ∀ (k : Nat) (b : List Int), b.length < k → (∀ p ∈ parse k b, p.2 = Frames.nsec p.1.length ∧ p.1.length ≤ 16384) ∧ (fsecs ((parse k b).map (·.1))).flatten = b.take (secs (parse k b) * 64) ∧ lenS ((parse k b).map (·.1)) = secs (parse k b) := by
  intro k
  induction k with
  | zero => intro b h; omega
  | succ k ih =>
    intro b hk
    unfold parse
    cases h : Frames.get b with
    | none => exact ⟨fun p hp => (by cases hp), (by simp [secs, fsecs]), rfl⟩
    | some p =>
      obtain ⟨r, m⟩ := p
      obtain ⟨g1, g2, g3, g4⟩ := get_len h
      obtain ⟨_, _, g5, _, _⟩ := Frames.get_some h
      obtain ⟨i1, i2, i3⟩ := ih (b.drop (m * 64)) (by rw [List.length_drop]; omega)
      have es : secs ((r, m) :: parse k (b.drop (m * 64))) = m + secs (parse k (b.drop (m * 64))) := by unfold secs; simp
      simp only
      refine ⟨fun p hp => ?_, ?_, ?_⟩
      · rcases List.mem_cons.1 hp with rfl | hp
        · exact ⟨g1, g4⟩
        · exact i1 p hp
      · rw [es, List.map_cons, show fsecs (r :: (parse k (b.drop (m * 64))).map (·.1)) = fsec r ++ fsecs ((parse k (b.drop (m * 64))).map (·.1)) by simp [fsecs], List.flatten_append, fsec_flat, i2, g5, Nat.add_mul, List.take_add]
      · rw [es, ← i3, List.map_cons]
        simp only [lenS, List.map_cons, List.sum_cons]
        rw [g1]
theorem flat64_inj : ∀ (a b : List (List Int)), (∀ p ∈ a, p.length = 64) → (∀ p ∈ b, p.length = 64) → a.flatten = b.flatten → a = b := by
  intro a
  induction a with
  | nil =>
    intro b _ hb h
    cases b with
    | nil => rfl
    | cons q b =>
      have := congrArg List.length h
      rw [List.flatten_cons, List.length_append, hb q List.mem_cons_self] at this
      have h0 : ([] : List (List Int)).flatten.length = 0 := rfl
      omega
  | cons p a ih =>
    intro b ha hb h
    cases b with
    | nil =>
      have := congrArg List.length h
      rw [List.flatten_cons, List.length_append, ha p List.mem_cons_self] at this
      simp at this
    | cons q b =>
      have h1 := ha p List.mem_cons_self
      have h2 := hb q List.mem_cons_self
      rw [List.flatten_cons, List.flatten_cons] at h
      obtain ⟨e1, e2⟩ := List.append_inj h (by omega)
      rw [e1, ih b (fun x hx => ha x (List.mem_cons_of_mem _ hx)) (fun x hx => hb x (List.mem_cons_of_mem _ hx)) e2]
theorem flat_take : ∀ (l : List (List Int)) (i : Nat), (∀ p ∈ l, p.length = 64) → (l.take i).flatten = l.flatten.take (i * 64) := by
  intro l
  induction l with
  | nil => intro i _; simp
  | cons p l ih =>
    intro i hp
    have h64 := hp p List.mem_cons_self
    cases i with
    | zero => simp
    | succ i =>
      rw [List.take_succ_cons, List.flatten_cons, List.flatten_cons, ih i (fun q hq => hp q (List.mem_cons_of_mem _ hq)), List.take_append, show (i + 1) * 64 - p.length = i * 64 by omega, List.take_of_length_le (l := p) (by omega)]
/-- Whatever is on a disk: opened, it is a log. -/
theorem opened_lg {D : Dk} (hs : ∀ p ∈ D.seen, p.length = 64) : lenS (recsD D) = atD D ∧ atD D ≤ D.seen.length ∧ Lg (openD D) D.seen.length (recsD D) ∧ (openD D).waits = [] ∧ (openD D).sure = (openD D).seen ∧ (openD D).seen = D.seen.take (atD D) ++ zs (D.seen.length - atD D) := by
  obtain ⟨h1, h2, h3⟩ := parse_frames (D.seen.flatten.length + 1) D.seen.flatten (by omega)
  have hfl : D.seen.flatten.length = D.seen.length * 64 := by
    have : ∀ l : List (List Int), (∀ p ∈ l, p.length = 64) → l.flatten.length = l.length * 64 := by
      intro l
      induction l with
      | nil => intro _; rfl
      | cons p l ih => intro hp; rw [List.flatten_cons, List.length_append, ih (fun q hq => hp q (List.mem_cons_of_mem _ hq)), hp p List.mem_cons_self, List.length_cons]; omega
    exact this _ hs
  have hp := (parse_facts (D.seen.flatten.length + 1) D.seen.flatten).1
  have hat : atD D ≤ D.seen.length := by
    show secs (parse (D.seen.flatten.length + 1) D.seen.flatten) ≤ _
    omega
  have e1 : lenS (recsD D) = atD D := h3
  have e2 : D.seen.take (atD D) = fsecs (recsD D) := by
    refine flat64_inj _ _ (fun p hp => hs p (List.mem_of_mem_take hp)) (fsecs_64 _) ?_
    rw [flat_take _ _ hs]
    exact h2.symm
  rw [openD_is hs hat]
  refine ⟨e1, hat, ⟨by rw [e2, e1], by rw [e1]; exact hat, fun r hr => ?_⟩, rfl, rfl, rfl⟩
  obtain ⟨p, hp, rfl⟩ := List.mem_map.1 hr
  exact (h1 p hp).2
end Go.Proofs.Ytmpkoacpakepfaa.Sx
