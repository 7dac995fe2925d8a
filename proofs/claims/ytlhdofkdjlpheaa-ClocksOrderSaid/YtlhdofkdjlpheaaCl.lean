/- Plain facts on maps of ticks: who is due. -/
import Derived.Test.YtlhdofkdjlpheaaClk
import Derived.Test.YtlhdofkdjlpheaaPh
namespace Go.Proofs.Ytlhdofkdjlpheaa.Pl
open Go Go.RowKit Sx Base Own

theorem mem_lk {α : Type} {m : List (Int × α)} (hn : (keysM m).Nodup) {x : Int} {v : α} (h : (x, v) ∈ m) : lkM m x = some v := by
  induction m with
  | nil => cases h
  | cons p r ih =>
    have hn' : p.1 ∉ keysM r ∧ (keysM r).Nodup := by simpa [keysM] using hn
    rw [lkM_cons]
    rcases List.mem_cons.1 h with rfl | h
    · rw [if_pos rfl]
    · rw [if_neg (fun e => hn'.1 (by rw [e]; exact List.mem_map.2 ⟨_, h, rfl⟩)), ih hn'.2 h]
/-- A map of ticks, by what it tells of each key. -/
structure Is (L : Nat) (m : List (Int × Int)) (f : Int → Option Int) : Prop where
  nodup : (keysM m).Nodup
  lk : ∀ x, lkM m x = f x
  bd : ∀ x v, f x = some v → 0 ≤ v ∧ v ≤ 100000000000
  len : m.length ≤ L
theorem up_len {α : Type} (m : List (Int × α)) (x : Int) (v : α) : (upM m x v).length ≤ m.length + 1 := by
  induction m with
  | nil => simp [upM]
  | cons p r ih =>
    unfold upM
    split
    · simp
    · simp only [List.length_cons]; omega
theorem Is.nil : Is 0 [] (fun _ => none) := ⟨List.nodup_nil, fun _ => rfl, (fun _ _ h => by cases h), Nat.le_refl _⟩
theorem Is.more {L L' : Nat} {m : List (Int × Int)} {f : Int → Option Int} (h : Is L m f) (hl : L ≤ L') : Is L' m f := ⟨h.nodup, h.lk, h.bd, Nat.le_trans h.len hl⟩
theorem Is.ext {L : Nat} {m : List (Int × Int)} {f g : Int → Option Int} (h : Is L m f) (e : ∀ x, f x = g x) : Is L m g := ⟨h.nodup, fun x => by rw [h.lk, e], fun x v hv => h.bd x v (by rw [e]; exact hv), h.len⟩
theorem Is.up {L : Nat} {m : List (Int × Int)} {f : Int → Option Int} (h : Is L m f) (x v : Int) (hv : 0 ≤ v ∧ v ≤ 100000000000) : Is (L + 1) (upM m x v) (fun y => if y = x then some v else f y) := by
  refine ⟨nodup_up h.nodup x v, fun y => ?_, fun y w hw => ?_, Nat.le_trans (up_len m x v) (Nat.succ_le_succ h.len)⟩
  · rw [lk_up, h.lk]
    by_cases e : x = y
    · subst e; simp
    · rw [if_neg e, if_neg (fun q => e q.symm)]
  · split at hw
    · injection hw with hw; subst hw; exact hv
    · exact h.bd y w hw
theorem Is.del {L : Nat} {m : List (Int × Int)} {f : Int → Option Int} (h : Is L m f) (x : Int) : Is L (delM m x) (fun y => if y = x then none else f y) := by
  refine ⟨h.nodup.sublist ((del_sub m x).map _), fun y => ?_, fun y w hw => ?_, Nat.le_trans (del_sub m x).length_le h.len⟩
  · rw [lk_del h.nodup, h.lk]
    by_cases e : x = y
    · subst e; simp
    · rw [if_neg e, if_neg (fun q => e q.symm)]
  · split at hw
    · cases hw
    · exact h.bd y w hw
theorem Is.due {L : Nat} {m : List (Int × Int)} {f : Int → Option Int} (h : Is L m f) {now : Int} (h0 : 0 ≤ now ∧ now ≤ 100000000000) {l : List Int} (hs : l.Pairwise (· < ·)) (hl : ∀ x, x ∈ l ↔ f x = some now) : Clk.due now m = l := by
  have hnd : (clkC now m).Nodup := h.nodup.sublist (List.filter_sublist.map _)
  have hnl : l.Nodup := hs.imp (fun hab e => by omega)
  have hp : l.Perm (clkC now m) := by
    rw [List.perm_ext_iff_of_nodup hnl hnd]
    intro x
    rw [hl x, ← h.lk]
    unfold clkC
    rw [List.mem_map]
    constructor
    · intro hx
      refine ⟨(x, now), List.mem_filter.2 ⟨lk_some hx, ?_⟩, rfl⟩
      unfold clkH
      rw [w64 (by simp) (by simp)]
      simp
    · rintro ⟨⟨a, b⟩, hp, rfl⟩
      obtain ⟨h1, h2⟩ := List.mem_filter.1 hp
      have h3 := mem_lk h.nodup h1
      have hb := h.bd a b (by rw [← h.lk]; exact h3)
      unfold clkH at h2
      simp only at h2
      rw [w64 (by omega) (by omega)] at h2
      have : b - now = 0 := by simpa using h2
      rw [h3]
      congr 1
      omega
  rw [← due_of hp]
  have hle : l.Pairwise (fun x y => x ≤ y) := hs.imp (fun hab => by omega)
  exact List.mergeSort_of_pairwise (hle.imp (fun hab => by simpa using hab))
/-- Who is due, whatever it is. -/
theorem Is.dues {L : Nat} {m : List (Int × Int)} {f : Int → Option Int} (h : Is L m f) {now : Int} (h0 : 0 ≤ now ∧ now ≤ 100000000000) : (∀ x, x ∈ Clk.due now m ↔ f x = some now) ∧ (Clk.due now m).Pairwise (· < ·) ∧ (Clk.due now m).length ≤ L := by
  have hnd : (clkC now m).Nodup := h.nodup.sublist (List.filter_sublist.map _)
  have hpm := (List.mergeSort_perm (clkC now m) (fun x y => decide (x ≤ y)))
  refine ⟨fun x => ?_, ?_, ?_⟩
  · show x ∈ (clkC now m).mergeSort _ ↔ _
    rw [hpm.mem_iff, ← h.lk]
    unfold clkC
    rw [List.mem_map]
    constructor
    · rintro ⟨⟨a, b⟩, hp, rfl⟩
      obtain ⟨h1, h2⟩ := List.mem_filter.1 hp
      have h3 := mem_lk h.nodup h1
      have hb := h.bd a b (by rw [← h.lk]; exact h3)
      unfold clkH at h2
      simp only at h2
      rw [w64 (by omega) (by omega)] at h2
      have : b - now = 0 := by simpa using h2
      rw [h3]
      congr 1
      omega
    · intro hx
      refine ⟨(x, now), List.mem_filter.2 ⟨lk_some hx, ?_⟩, rfl⟩
      unfold clkH
      rw [w64 (by simp) (by simp)]
      simp
  · have h1 := List.pairwise_mergeSort (le := fun (x y : Int) => decide (x ≤ y)) (fun a b c h1 h2 => by simp only [decide_eq_true_eq] at *; omega) (fun a b => by simp only [Bool.or_eq_true, decide_eq_true_eq]; omega) (clkC now m)
    have h2 : (Clk.due now m).Nodup := (hpm.nodup_iff).2 hnd
    have h3 := h1.and h2
    exact h3.imp (fun {a b} hab => by
      have p : a ≤ b := by simpa using hab.1
      have q := hab.2
      omega)
  · show ((clkC now m).mergeSort _).length ≤ L
    rw [hpm.length_eq, clkC, List.length_map]
    exact Nat.le_trans (List.length_filter_le _ _) h.len
theorem Is.dels {L : Nat} (l : List Int) : ∀ {m : List (Int × Int)} {f : Int → Option Int}, Is L m f → Is L (l.foldl delM m) (fun y => if y ∈ l then none else f y) := by
  induction l with
  | nil => intro m f h; exact h.ext (fun x => by simp)
  | cons x l ih =>
    intro m f h
    refine (ih (h.del x)).ext (fun y => ?_)
    by_cases e : y = x
    · subst e; simp
    · simp [e]
theorem sorted_unique {l1 l2 : List Int} (h1 : l1.Pairwise (· < ·)) (h2 : l2.Pairwise (· < ·)) (h : ∀ x, x ∈ l1 ↔ x ∈ l2) : l1 = l2 := by
  have n1 : l1.Nodup := h1.imp (fun hab e => by omega)
  have n2 : l2.Nodup := h2.imp (fun hab e => by omega)
  exact List.Perm.eq_of_pairwise (le := fun x y => x < y) (fun a b _ _ h1 h2 => by omega) h1 h2 ((List.perm_ext_iff_of_nodup n1 n2).2 h)
theorem del_len {α : Type} {m : List (Int × α)} {x : Int} (h : x ∈ keysM m) : (delM m x).length + 1 = m.length := by
  induction m with
  | nil => simp [keysM] at h
  | cons p r ih =>
    unfold delM
    by_cases hp : p.1 = x
    · rw [if_pos hp]; rfl
    · rw [if_neg hp]
      have : x ∈ keysM r := by
        simp only [keysM, List.map_cons, List.mem_cons] at h
        exact h.resolve_left (fun e => hp e.symm)
      have := ih this
      simp only [List.length_cons]; omega
theorem dels_len {L : Nat} (l : List Int) : ∀ {m : List (Int × Int)} {f : Int → Option Int}, Is L m f → l.Nodup → (∀ x ∈ l, f x ≠ none) → (l.foldl delM m).length + l.length = m.length := by
  induction l with
  | nil => intro m f h _ _; rfl
  | cons x l ih =>
    intro m f h hn hf
    rw [List.nodup_cons] at hn
    have hx : x ∈ keysM m := by
      have := hf x List.mem_cons_self
      rw [← h.lk] at this
      exact Classical.byContradiction fun q => this (lk_none.2 q)
    have h1 := del_len hx
    have h2 := ih (h.del x) hn.2 (fun y hy => by
      rw [if_neg (fun e => hn.1 (by rw [← e]; exact hy))]
      exact hf y (List.mem_cons_of_mem _ hy))
    simp only [List.foldl_cons, List.length_cons]
    omega
theorem up_len_new {α : Type} {m : List (Int × α)} {x : Int} (v : α) (h : lkM m x = none) : (upM m x v).length = m.length + 1 := by
  have h1 := congrArg List.length (keys_up m x v)
  rw [if_neg (lk_none.1 h)] at h1
  simpa [keysM] using h1
theorem Is.empty {L : Nat} {m : List (Int × Int)} {f : Int → Option Int} (h : Is L m f) (hf : ∀ x, f x = none) : m = [] := by
  cases m with
  | nil => rfl
  | cons p r =>
    have := h.lk p.1
    rw [hf, lkM_cons, if_pos rfl] at this
    cases this
end Go.Proofs.Ytlhdofkdjlpheaa.Pl
