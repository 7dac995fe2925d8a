/- Who comes to whom: plainly. -/
import Derived.Test.YtjdholnlbhkmeaaWt
namespace Go.Proofs.Ytjdholnlbhkmeaa.Sx
open Go Go.RowKit Base Own

/-- One comes to another one, along who waits for whom. -/
inductive Cms (es : List (Int × Int)) (a : Int) : Int → Prop
  | here : Cms es a a
  | step {b c : Int} : Cms es a b → (b, c) ∈ es → Cms es a c
theorem Cms.trans {es : List (Int × Int)} {a b c : Int} (h : Cms es a b) (h2 : Cms es b c) : Cms es a c := by
  induction h2 with
  | here => exact h
  | step _ hm ih => exact .step ih hm
theorem Cms.mono {es fs : List (Int × Int)} {a b : Int} (h : Cms es a b) (hs : ∀ p ∈ es, p ∈ fs) : Cms fs a b := by
  induction h with
  | here => exact .here
  | step _ hm ih => exact .step ih (hs _ hm)
theorem Cms.first {es : List (Int × Int)} {a b c : Int} (hm : (a, b) ∈ es) (h : Cms es b c) : Cms es a c := (Cms.step .here hm).trans h
def grow (es : List (Int × Int)) (l : List Int) : List Int := l ++ (es.filter fun p => l.contains p.1 && !l.contains p.2).map (·.2)
def clo (es : List (Int × Int)) : Nat → List Int → List Int
  | 0, l => l
  | n + 1, l => clo es n (grow es l)
def comesB (es : List (Int × Int)) (a b : Int) : Bool := (clo es es.length [a]).contains b
def closed (es : List (Int × Int)) (l : List Int) : Prop := ∀ p ∈ es, p.1 ∈ l → p.2 ∈ l
theorem grow_sub (es : List (Int × Int)) (l : List Int) : ∀ x ∈ l, x ∈ grow es l := fun x hx => List.mem_append_left _ hx
theorem grow_closed {es : List (Int × Int)} {l : List Int} (h : closed es l) : grow es l = l := by
  unfold grow
  rw [List.filter_eq_nil_iff.2 (fun p hp => by
    simp only [Bool.and_eq_true, List.contains_iff_mem, Bool.not_eq_true', not_and, Bool.not_eq_false]
    intro hp1
    simpa using h p hp hp1)]
  simp
theorem clo_closed {es : List (Int × Int)} : ∀ {n : Nat} {l : List Int}, closed es l → clo es n l = l := by
  intro n
  induction n with
  | zero => intro l _; rfl
  | succ n ih => intro l h; unfold clo; rw [grow_closed h, ih h]
def away (es : List (Int × Int)) (l : List Int) : Nat := (es.filter fun p => !l.contains p.2).length
theorem away_le {es : List (Int × Int)} {l l' : List Int} (h : ∀ x ∈ l, x ∈ l') : away es l' ≤ away es l := by
  unfold away
  induction es with
  | nil => exact Nat.le_refl _
  | cons p r ih =>
    rw [List.filter_cons, List.filter_cons]
    by_cases hp : p.2 ∈ l
    · rw [if_neg (by simpa using h _ hp), if_neg (by simpa using hp)]; exact ih
    · rw [if_pos (show (!l.contains p.2) = true by simpa using hp)]
      split
      · simp only [List.length_cons]; omega
      · simp only [List.length_cons]; omega
theorem away_lt {es : List (Int × Int)} {l l' : List Int} (h : ∀ x ∈ l, x ∈ l') {p : Int × Int} (hp : p ∈ es) (h1 : p.2 ∉ l) (h2 : p.2 ∈ l') : away es l' < away es l := by
  induction es with
  | nil => cases hp
  | cons q r ih =>
    unfold away at ih ⊢
    rw [List.filter_cons, List.filter_cons]
    rcases List.mem_cons.1 hp with rfl | hp
    · rw [if_neg (by simpa using h2), if_pos (by simpa using h1)]
      have := away_le (es := r) h
      unfold away at this
      simp only [List.length_cons]; omega
    · have := ih hp
      by_cases hq : q.2 ∈ l
      · rw [if_neg (by simpa using h _ hq), if_neg (by simpa using hq)]; exact this
      · rw [if_pos (show (!l.contains q.2) = true by simpa using hq)]
        split
        · simp only [List.length_cons]; omega
        · simp only [List.length_cons]; omega
theorem clo_end {es : List (Int × Int)} : ∀ {n : Nat} {l : List Int}, away es l ≤ n → closed es (clo es n l) := by
  intro n
  induction n with
  | zero =>
    intro l h p hp _
    unfold clo
    refine Classical.byContradiction fun hn => ?_
    have : (es.filter fun p => !l.contains p.2) = [] := List.eq_nil_of_length_eq_zero (by unfold away at h; omega)
    have hm : p ∈ es.filter (fun p => !l.contains p.2) := List.mem_filter.2 ⟨hp, by simpa using hn⟩
    rw [this] at hm; cases hm
  | succ n ih =>
    intro l h
    unfold clo
    by_cases hc : closed es l
    · rw [grow_closed hc, clo_closed hc]; exact hc
    · refine ih ?_
      obtain ⟨p, hp⟩ := Classical.not_forall.1 hc
      simp only [Classical.not_imp] at hp
      obtain ⟨h1, h2, h3⟩ := hp
      have := away_lt (grow_sub es l) h1 h3 (show p.2 ∈ grow es l from List.mem_append_right _ (List.mem_map.2 ⟨p, List.mem_filter.2 ⟨h1, by simp [h2, h3]⟩, rfl⟩))
      omega
theorem clo_mem {es : List (Int × Int)} : ∀ {n : Nat} {l : List Int} {x : Int}, x ∈ l → x ∈ clo es n l := by
  intro n
  induction n with
  | zero => intro l x h; exact h
  | succ n ih => intro l x h; exact ih (grow_sub es l x h)
theorem clo_sound {es : List (Int × Int)} {a : Int} : ∀ {n : Nat} {l : List Int}, (∀ x ∈ l, Cms es a x) → ∀ x ∈ clo es n l, Cms es a x := by
  intro n
  induction n with
  | zero => intro l h; exact h
  | succ n ih =>
    intro l h
    refine ih fun x hx => ?_
    rcases List.mem_append.1 hx with hx | hx
    · exact h x hx
    · obtain ⟨p, hp, rfl⟩ := List.mem_map.1 hx
      obtain ⟨h1, h2⟩ := List.mem_filter.1 hp
      have h2 : p.1 ∈ l := by
        simp only [Bool.and_eq_true, List.contains_iff_mem] at h2
        exact h2.1
      exact .step (h _ h2) h1
theorem comes_closed {es : List (Int × Int)} {l : List Int} (h : closed es l) {a b : Int} (ha : a ∈ l) (hc : Cms es a b) : b ∈ l := by
  induction hc with
  | here => exact ha
  | step _ hm ih => exact h _ hm ih
theorem comes_iff (es : List (Int × Int)) (a b : Int) : comesB es a b = true ↔ Cms es a b := by
  unfold comesB
  rw [List.contains_iff_mem]
  constructor
  · exact clo_sound (fun x hx => by rw [List.mem_singleton] at hx; subst hx; exact .here) b
  · intro h
    refine comes_closed (clo_end (es := es) (n := es.length) (l := [a]) (List.length_filter_le _ _)) (clo_mem (List.mem_singleton_self a)) h
theorem mem_tgt {es : List (Int × Int)} {x y : Int} : y ∈ tgt es x ↔ (x, y) ∈ es := by
  unfold tgt
  rw [List.mem_map]
  constructor
  · rintro ⟨⟨a, b⟩, hp, rfl⟩
    obtain ⟨h1, h2⟩ := List.mem_filter.1 hp
    have : a = x := by simpa using h2
    subst this; exact h1
  · intro h
    exact ⟨(x, y), List.mem_filter.2 ⟨h, by simp⟩, rfl⟩
end Go.Proofs.Ytjdholnlbhkmeaa.Sx
