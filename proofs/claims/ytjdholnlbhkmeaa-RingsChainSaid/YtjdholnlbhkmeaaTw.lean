/- Twins of lists of numbers, and the contracts of rings, among the things in memory. -/
import Derived.Test.YtjdholnlbhkmeaaTwinIds
import Derived.Test.YtjdholnlbhkmeaaRcl
namespace Go.Proofs.Ytjdholnlbhkmeaa.Sx
open Go Go.RowKit Base Own TwinIds

/-- A twin: a row of the call's own with one number more behind it. -/
def twA (A : Option Addr) (c : Nat) (l : List Int) : Asn := ownA .u32 23 A c (l ++ [77])
section
variable {w0 w : World} {R M : List Asn} {A A' : Option Addr} {c c' : Nat} {l : List Int}
theorem Sat.twnAt (S : Sat w0 w M) (i : Nat) (hi : M[i]? = some (twA A c l)) : Rk .u32 w A l := by
  have h := (Sat.ownAt S i hi).take l.length
  rwa [List.take_left] at h
theorem Sat.twnOwn (S : Sat w0 w (twA A c l :: R)) : Sat w0 w (ownA .u32 23 A c l :: R) := by
  obtain ⟨F, ⟨h1, h2, h3⟩, hF, hk⟩ := S.opened
  have hlen : (l ++ [77]).length = l.length + 1 := by simp
  refine hk (A' := ownA .u32 23 A c l) (F' := F) (G := fun _ => False) ⟨?_, fun z hz => h2 z (List.mem_append_left _ hz), fun g => ?_⟩ (Chg.refl _ _) (fun _ _ h => h.elim) fun g hg => .inl hg
  · rcases h1.2 with ⟨e1, e2⟩ | ⟨g, cap, cur, e1, hB, hg, h4, h5, h6, h7⟩
    · rw [hlen] at e2; omega
    · injection e1 with e3 e4 e5
      subst e3 e5
      refine ⟨by simp, .inr ⟨g, c, cur, rfl, hB, hg, by rw [hlen] at h4; omega, h5, h6, ?_⟩⟩
      have h8 := congrArg (List.take l.length) h7
      rw [List.take_take, hlen, List.map_append] at h8
      rw [show min l.length ((l.length + 1) * 1) = l.length by omega, List.take_left' (by simp)] at h8
      rw [Nat.mul_one]; exact h8
  · rw [h3 g]
    cases A <;> simp [Value.ownBlock]
theorem twn_of (S : Sat w0 w (twA A c l :: R)) : Twn w w0.heap.size (.slice A l.length c) l := by
  obtain ⟨F, ⟨h1, h2, h3⟩, hF, hk⟩ := S.opened
  obtain ⟨g, c2, e⟩ := h1.ptr (by simp)
  injection e with e1 e2 e3
  subst e1
  refine ⟨g, c, rfl, ?_⟩
  have hlen : (l ++ [77]).length = l.length + 1 := by simp
  rw [hlen] at h1
  exact h1
theorem twin_call (hr : Rk .u32 w A l) (hl : l.length ≤ 100000000000) (S : Sat w0 w R) : Calls Try.prog 13 #[.slice A l.length c] w fun e w' => ∃ A' c', e = .returned (.slice A' l.length c') ∧ vok (.slice A' l.length c') = true ∧ Sat w0 w' (twA A' c' l :: R) := by
  refine (twin A c l w hl hr.rd).mono ?_
  rintro e w' ⟨v, rfl, ⟨g, c', rfl, h2⟩, h3⟩
  have hlen : (l ++ [77]).length = l.length + 1 := by simp
  rw [← hlen] at h2
  obtain ⟨A2, c2, e2, h5, h6⟩ := S.row h3 h2 (fun z hz => by
    rcases List.mem_append.1 hz with hz | hz
    · exact hr.wf z hz
    · rw [List.mem_singleton] at hz; subst hz; decide)
  injection e2 with q1 q2 q3
  subst q1 q3
  obtain ⟨F, hF⟩ := h6.hd
  have hm := h6.own
  rw [hlen] at hm
  exact ⟨_, _, rfl, vok_sl ⟨by omega, hm.2.2⟩, h6⟩
theorem left_call (hr : Rk .u32 w A' l) (hl : l.length ≤ 100000000000) (S : Sat w0 w (twA A c l :: R)) : Calls Try.prog 16 #[.slice A l.length c, .slice A' l.length c'] w fun e w' => e = .returned (.bool true) ∧ Sat w0 w' (twA A c l :: R) := by
  refine (left _ A' c' _ l w hl (twn_of S) hr.rd).mono ?_
  rintro e w' ⟨rfl, h⟩
  exact ⟨rfl, S.new h⟩
theorem closes_call {l1 : List Int} {A1 : Option Addr} {c1 : Nat} {who whom : Int} (rk0 : Rk .u32 w A l) (rk1 : Rk .u32 w A1 l1) (m0 : l.length ≤ c ∧ c ≤ maxLen) (m1 : l1.length ≤ c1 ∧ c1 ≤ maxLen) (v2 : (Lit.int .u32 who).wf = true) (v3 : (Lit.int .u32 whom).wf = true) (hb : l.length ≤ 1000) (S : Sat w0 w R) :
    Calls Try.prog 14 #[.slice A l.length c, .slice A1 l1.length c1, .int .u32 who, .int .u32 whom] w fun e w' => e = .returned (.tuple #[.bool (if l.length = l1.length then comesB (l.zip l1) whom who else false), .int .i64 (if l.length = l1.length then 0 else 1)]) ∧ Sat w0 w' R :=
  (closes_key A A1 c c1 l l1 who whom rk0 rk1 m0 m1 v2 v3 hb).mono fun e w' ⟨h1, h2⟩ => ⟨h1, S.new h2⟩
end
theorem vok_cl (b : Bool) (p : Prop) [Decidable p] : vok (.tuple #[.bool b, .int .i64 (if p then 0 else 1)]) = true := by
  split <;> rfl
end Go.Proofs.Ytjdholnlbhkmeaa.Sx
