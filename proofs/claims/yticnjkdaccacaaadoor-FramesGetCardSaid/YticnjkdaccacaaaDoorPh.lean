/- Small plain facts. -/
import Derived.Test.YticnjkdaccacaaaDoorSy
import Derived.IntWalk
namespace Go.Proofs.YticnjkdaccacaaaDoor.Pl
open Go Go.RowKit Sx Base Own

theorem w64 {x : Int} (h0 : -9223372036854775808 ≤ x) (h1 : x ≤ 9223372036854775807) : IntKind.wrap .i64 x = x := IntWalk.i64_in x ⟨h0, h1⟩
theorem w64s {n : Nat} (h : n ≤ 1000000000000000) : IntKind.wrap .i64 ((n : Int) + (1 : Int)) = ((n + 1 : Nat) : Int) := by rw [w64 (by omega) (by omega)]; omega
theorem wu8 (x : Int) : IntKind.wrap .u8 x = x % 256 := by rw [IntKind.wrap_u8]
theorem tm {x m : Int} (h0 : 0 ≤ x) : Int.tmod x m = x % m := Int.tmod_eq_emod_of_nonneg h0
theorem wf8 {l : List Int} (v : ∀ n ∈ l, (Lit.int .u8 n).wf = true) {i : Nat} (hi : i < l.length) : 0 ≤ l.getD i 0 ∧ l.getD i 0 ≤ 255 := by
  have hm : l.getD i 0 ∈ l := by rw [List.getD_eq_getElem?_getD, List.getElem?_eq_getElem hi]; exact List.getElem_mem hi
  have := v _ hm
  rw [wf_int] at this
  have h1 : IntKind.u8.min = 0 := by decide
  have h2 : IntKind.u8.max = 255 := by decide
  omega
theorem wf16 {l : List Int} (v : ∀ n ∈ l, (Lit.int .u16 n).wf = true) {i : Nat} (hi : i < l.length) : 0 ≤ l.getD i 0 ∧ l.getD i 0 ≤ 65535 := by
  have hm : l.getD i 0 ∈ l := by rw [List.getD_eq_getElem?_getD, List.getElem?_eq_getElem hi]; exact List.getElem_mem hi
  have := v _ hm
  rw [wf_int] at this
  have h1 : IntKind.u16.min = 0 := by decide
  have h2 : IntKind.u16.max = 65535 := by decide
  omega
theorem wfu8 {x : Int} (v : (Lit.int .u8 x).wf = true) : 0 ≤ x ∧ x ≤ 255 := by
  rw [wf_int] at v
  have h1 : IntKind.u8.min = 0 := by decide
  have h2 : IntKind.u8.max = 255 := by decide
  omega
theorem wfu32 {x : Int} (v : (Lit.int .u32 x).wf = true) : 0 ≤ x ∧ x ≤ 4294967295 := by
  rw [wf_int] at v
  have h1 : IntKind.u32.min = 0 := by decide
  have h2 : IntKind.u32.max = 4294967295 := by decide
  omega
theorem wfu64 {x : Int} (v : (Lit.int .u64 x).wf = true) : 0 ≤ x ∧ x ≤ 18446744073709551615 := by
  rw [wf_int] at v
  have h1 : IntKind.u64.min = 0 := by decide
  have h2 : IntKind.u64.max = 18446744073709551615 := by decide
  omega
theorem dt {p : Prop} [Decidable p] (h : p) : decide p = true := by simp [h]
theorem df {p : Prop} [Decidable p] (h : ¬ p) : decide p = false := by simp [h]
theorem ift {ρ : Type} {b : Bool} {x y : ρ} (h : b = true) : (if b = true then x else y) = x := by rw [if_pos h]
theorem iff_ {ρ : Type} {b : Bool} {x y : ρ} (h : b = false) : (if b = true then x else y) = y := by rw [h]; rfl
theorem bne_no {x y : Int} (h : x = y) : (x != y) = false := by subst h; simp
theorem beq_yes {x y : Int} (h : x = y) : (x == y) = true := by subst h; simp
theorem beq_no {x y : Int} (h : x ≠ y) : (x == y) = false := by simpa using h
end Go.Proofs.YticnjkdaccacaaaDoor.Pl
