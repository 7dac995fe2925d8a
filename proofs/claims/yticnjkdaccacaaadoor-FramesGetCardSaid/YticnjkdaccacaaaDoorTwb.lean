/- Twins of lists of numbers, and the contracts of rings, among the things in memory. -/
import Derived.Test.YticnjkdaccacaaaDoorTwinBytes
import Derived.Test.YticnjkdaccacaaaDoorSl
namespace Go.Proofs.YticnjkdaccacaaaDoor.Sx
open Go Go.RowKit Base Own TwinBytes

/-- A twin: a row of the call's own with one number more behind it. -/
def twbA (A : Option Addr) (c : Nat) (l : List Int) : Asn := ownA .u8 5 A c (l ++ [77])
section
variable {w0 w : World} {R M : List Asn} {A A' : Option Addr} {c c' : Nat} {l : List Int}
theorem Sat.twbAt (S : Sat w0 w M) (i : Nat) (hi : M[i]? = some (twbA A c l)) : Rk .u8 w A l := by
  have h := (Sat.ownAt S i hi).take l.length
  rwa [List.take_left] at h
theorem Sat.twbOwn (S : Sat w0 w (twbA A c l :: R)) : Sat w0 w (ownA .u8 5 A c l :: R) := by
  obtain ⟨F, ⟨h1, h2, h3⟩, hF, hk⟩ := S.opened
  have hlen : (l ++ [77]).length = l.length + 1 := by simp
  refine hk (A' := ownA .u8 5 A c l) (F' := F) (G := fun _ => False) ⟨?_, fun z hz => h2 z (List.mem_append_left _ hz), fun g => ?_⟩ (Chg.refl _ _) (fun _ _ h => h.elim) fun g hg => .inl hg
  · rcases h1.2 with ⟨e1, e2⟩ | ⟨g, cap, cur, e1, hB, hg, h4, h5, h6, h7⟩
    · rw [hlen] at e2; omega
    · injection e1 with e3 e4 e5
      subst e3 e5
      refine ⟨by simp, .inr ⟨g, c, cur, rfl, hB, hg, by rw [hlen] at h4; omega, h5, h6, ?_⟩⟩
      have h8 := congrArg (List.take l.length) h7
      rw [List.take_take, hlen, List.map_append] at h8
      rw [show min l.length ((l.length + 1) * 1) = l.length by omega, List.take_left' (by simp)] at h8
      rw [Nat.mul_one]; exact h8
  · rw [h3 g]
    cases A <;> simp [Value.ownBlock]
theorem twb_of (S : Sat w0 w (twbA A c l :: R)) : Twn w w0.heap.size (.slice A l.length c) l := by
  obtain ⟨F, ⟨h1, h2, h3⟩, hF, hk⟩ := S.opened
  obtain ⟨g, c2, e⟩ := h1.ptr (by simp)
  injection e with e1 e2 e3
  subst e1
  refine ⟨g, c, rfl, ?_⟩
  have hlen : (l ++ [77]).length = l.length + 1 := by simp
  rw [hlen] at h1
  exact h1
theorem twinb_call (hr : Rk .u8 w A l) (hl : l.length ≤ 100000000000) (S : Sat w0 w R) : Calls Tryd.prog 5 #[.slice A l.length c] w fun e w' => ∃ A' c', e = .returned (.slice A' l.length c') ∧ vok (.slice A' l.length c') = true ∧ Sat w0 w' (twbA A' c' l :: R) := by
  refine (twin A c l w hl hr.rd).mono ?_
  rintro e w' ⟨v, rfl, ⟨g, c', rfl, h2⟩, h3⟩
  have hlen : (l ++ [77]).length = l.length + 1 := by simp
  rw [← hlen] at h2
  obtain ⟨A2, c2, e2, h5, h6⟩ := S.row h3 h2 (fun z hz => by
    rcases List.mem_append.1 hz with hz | hz
    · exact hr.wf z hz
    · rw [List.mem_singleton] at hz; subst hz; decide)
  injection e2 with q1 q2 q3
  subst q1 q3
  obtain ⟨F, hF⟩ := h6.hd
  have hm := h6.own
  rw [hlen] at hm
  exact ⟨_, _, rfl, vok_sl ⟨by omega, hm.2.2⟩, h6⟩
theorem leftb_call (hr : Rk .u8 w A' l) (hl : l.length ≤ 100000000000) (S : Sat w0 w (twbA A c l :: R)) : Calls Tryd.prog 9 #[.slice A l.length c, .slice A' l.length c'] w fun e w' => e = .returned (.bool true) ∧ Sat w0 w' (twbA A c l :: R) := by
  refine (left _ A' c' _ l w hl (twb_of S) hr.rd).mono ?_
  rintro e w' ⟨rfl, h⟩
  exact ⟨rfl, S.new h⟩
end
end Go.Proofs.YticnjkdaccacaaaDoor.Sx
