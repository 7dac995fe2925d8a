/- Maps of rows: the map, and the rows that it leads to, each on its own. -/
import Derived.Test.YticnjkdaccacaaaDoorSv
namespace Go.Proofs.YticnjkdaccacaaaDoor.Sx
open Go Go.RowKit Base Own

section
variable {w0 w : World} {B : Nat} {U : Nat → Prop} {L L' R : List Asn}
theorem SatF.perm (h : L.Perm L') : ∀ {U : Nat → Prop}, SatF w B U L → SatF w B U L' := by
  induction h with
  | nil => intro U h; exact h
  | cons A _ ih => rintro U ⟨F, h1, h2, h3⟩; exact ⟨F, h1, h2, ih h3⟩
  | swap A A' L => intro U h; exact h.swap
  | trans _ _ ih1 ih2 => intro U h; exact ih2 (ih1 h)
theorem Sat.perm (S : Sat w0 w L) (h : L.Perm L') : Sat w0 w L' := ⟨S.below, S.parts.perm h⟩
theorem SatF.left : ∀ {X Y : List Asn} {U : Nat → Prop}, SatF w B U (X ++ Y) → SatF w B U X := by
  intro X
  induction X with
  | nil => intro Y U _; trivial
  | cons A X ih => rintro Y U ⟨F, h1, h2, h3⟩; exact ⟨F, h1, h2, ih h3⟩
/-- The first things alone. -/
theorem Sat.firsts (X : List Asn) {Y : List Asn} (S : Sat w0 w (X ++ Y)) : Sat w0 w X := ⟨S.below, S.parts.left⟩
end
/-- A row as a value: where it begins, its room, what stands in it. -/
abbrev Rw := Option Addr × Nat × List Int
def rwV (p : Rw) : Value := .slice p.1 p.2.2.length p.2.1
def rw0 : Rw := (none, 0, [])
theorem rwV_vok (z : Rw) : vokC (rwV z) = vok (rwV z) := rfl
def rowsOf (k : IntKind) (e : TypeId) (m : List (Int × Rw)) : List Asn := m.map fun p => ownA k e p.2.1 p.2.2.1 p.2.2.2
def plM (m : List (Int × Rw)) : List (Int × List Int) := m.map fun p => (p.1, p.2.2.2)
def rowK (m : List (Int × Rw)) (x : Int) : Rw := (lkM m x).getD rw0
theorem lk_pl (m : List (Int × Rw)) (x : Int) : lkM (plM m) x = (lkM m x).map (·.2.2) := by
  induction m with
  | nil => rfl
  | cons p r ih =>
    unfold plM at ih ⊢
    rw [List.map_cons, lkM_cons, lkM_cons, ih]
    split <;> rfl
theorem up_pl (m : List (Int × Rw)) (x : Int) (r : Rw) : plM (upM m x r) = upM (plM m) x r.2.2 := by
  induction m with
  | nil => rfl
  | cons p q ih =>
    unfold plM at ih ⊢
    simp only [List.map_cons, upM]
    by_cases h : p.1 = x
    · rw [if_pos h, if_pos h]; rfl
    · rw [if_neg h, if_neg h, List.map_cons, ih]
theorem keys_pl (m : List (Int × Rw)) : keysM (plM m) = keysM m := by
  unfold keysM plM
  rw [List.map_map]; rfl
theorem up_perm {α : Type} (m : List (Int × α)) (x : Int) (v : α) : (upM m x v).Perm ((x, v) :: delM m x) := by
  induction m with
  | nil => exact List.Perm.refl _
  | cons p r ih =>
    unfold upM delM
    by_cases h : p.1 = x
    · rw [if_pos h, if_pos h, h]
    · rw [if_neg h, if_neg h]
      exact (List.Perm.cons p ih).trans (List.Perm.swap _ _ _)
theorem lk_perm {α : Type} {m : List (Int × α)} {x : Int} {v : α} (h : lkM m x = some v) : m.Perm ((x, v) :: delM m x) := by
  induction m with
  | nil => cases h
  | cons p r ih =>
    rw [lkM_cons] at h
    unfold delM
    by_cases hp : p.1 = x
    · rw [if_pos hp] at h ⊢
      injection h with h
      rw [← h, ← hp]
    · rw [if_neg hp] at h ⊢
      exact (List.Perm.cons p (ih h)).trans (List.Perm.swap _ _ _)
theorem del_none {α : Type} {m : List (Int × α)} {x : Int} (h : lkM m x = none) : delM m x = m := by
  induction m with
  | nil => rfl
  | cons p r ih =>
    rw [lkM_cons] at h
    unfold delM
    by_cases hp : p.1 = x
    · rw [if_pos hp] at h; cases h
    · rw [if_neg hp] at h ⊢; rw [ih h]
section
variable {w0 w : World} {R : List Asn} {k : IntKind} {e : TypeId} {m : List (Int × Rw)}
/-- The row at a key is taken out (nothing there: a nil row). -/
theorem Sat.takeRow (S : Sat w0 w (rowsOf k e m ++ R)) (x : Int) : Sat w0 w (ownA k e (rowK m x).1 (rowK m x).2.1 (rowK m x).2.2 :: (rowsOf k e (delM m x) ++ R)) := by
  unfold rowK
  cases h : lkM m x with
  | none => rw [del_none h]; exact S.nilRow k e
  | some v =>
    refine S.perm ?_
    exact (((lk_perm h).map _).append_right R)
/-- A row is put in at a key. -/
theorem Sat.putRow {r : Rw} (x : Int) (S : Sat w0 w (ownA k e r.1 r.2.1 r.2.2 :: (rowsOf k e (delM m x) ++ R))) : Sat w0 w (rowsOf k e (upM m x r) ++ R) := by
  refine S.perm ?_
  exact (((up_perm m x r).map (fun p => ownA k e p.2.1 p.2.2.1 p.2.2.2)).append_right R).symm
theorem Sat.backRow {r : Rw} {x : Int} (h : lkM m x = some r) (S : Sat w0 w (ownA k e r.1 r.2.1 r.2.2 :: (rowsOf k e (delM m x) ++ R))) : Sat w0 w (rowsOf k e m ++ R) := by
  refine S.perm ?_
  exact (((lk_perm h).map (fun p => ownA k e p.2.1 p.2.2.1 p.2.2.2)).append_right R).symm
theorem rows_mv {H X : List Asn} {Y : List Asn} : (H ++ (X ++ Y)).Perm (X ++ (H ++ Y)) := by
  rw [← List.append_assoc, ← List.append_assoc]
  exact List.perm_append_comm.append_right Y
/-- The same behind other things. -/
theorem Sat.take2 (H : List Asn) (S : Sat w0 w (H ++ (rowsOf k e m ++ R))) (x : Int) : Sat w0 w (ownA k e (rowK m x).1 (rowK m x).2.1 (rowK m x).2.2 :: (H ++ (rowsOf k e (delM m x) ++ R))) :=
  ((S.perm rows_mv).takeRow x).perm (List.Perm.cons _ rows_mv)
theorem Sat.put2 (H : List Asn) {r : Rw} (x : Int) (S : Sat w0 w (ownA k e r.1 r.2.1 r.2.2 :: (H ++ (rowsOf k e (delM m x) ++ R)))) : Sat w0 w (H ++ (rowsOf k e (upM m x r) ++ R)) :=
  (Sat.putRow x (S.perm (List.Perm.cons _ rows_mv))).perm rows_mv
theorem Sat.back2 (H : List Asn) {x : Int} (h : lkM m x ≠ none) (S : Sat w0 w (ownA k e (rowK m x).1 (rowK m x).2.1 (rowK m x).2.2 :: (H ++ (rowsOf k e (delM m x) ++ R)))) : Sat w0 w (H ++ (rowsOf k e m ++ R)) := by
  obtain ⟨r, hr⟩ := Option.ne_none_iff_exists'.1 h
  unfold rowK at S
  rw [hr] at S
  exact (Sat.backRow hr (S.perm (List.Perm.cons _ rows_mv))).perm rows_mv
theorem Sat.readAt (H : List Asn) (S : Sat w0 w (H ++ (rowsOf k e m ++ R))) (x : Int) : Rk k w (rowK m x).1 (rowK m x).2.2 ∧ (rowK m x).2.2.length ≤ (rowK m x).2.1 ∧ (rowK m x).2.1 ≤ maxLen := (S.take2 H x).own
/-- The row at a key reads as what stands there. -/
theorem Sat.readRow (S : Sat w0 w (rowsOf k e m ++ R)) (x : Int) : Rk k w (rowK m x).1 (rowK m x).2.2 ∧ (rowK m x).2.2.length ≤ (rowK m x).2.1 ∧ (rowK m x).2.1 ≤ maxLen := (S.takeRow x).own
end
end Go.Proofs.YticnjkdaccacaaaDoor.Sx
