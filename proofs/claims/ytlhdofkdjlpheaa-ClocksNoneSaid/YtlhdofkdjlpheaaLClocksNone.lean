/- ClocksNone walked: a clock that is not there, or that no call made. -/
import Derived.Test.YtlhdofkdjlpheaaProg
import Derived.Test.YtlhdofkdjlpheaaOwn
import Derived.Test.YtlhdofkdjlpheaaRow
import Derived.Test.YtlhdofkdjlpheaaRdr
import Derived.ProofKit
import Derived.OpenShut
import Derived.KernelRfl
import Derived.Lib.Hide
import Derived.Deep.LoopGhost
namespace Go.Proofs.Ytlhdofkdjlpheaa.ClockNull
open Go.RowKit Base Own

def Null (w : World) (p : Option Addr) : Prop :=
  p = none ∨ ∃ g, p = some ⟨g, 0, none⟩ ∧ w.cell? ⟨g, 0, none⟩ = some (.int .i64 0) ∧ w.cell? ⟨g, 1, none⟩ = some (.map none)
theorem there (p : Option Addr) (w : World) (h : Null w p) : Calls Try.prog 17 #[.pointer p] w fun e w' => e = .returned (.bool false) ∧ w' = w := by
  have hmn : ∀ w, (binOp .neq 24 (.map none) (.map none)).run Try.prog w = .ok (.bool false) w := fun _ => by kernel_rfl
  rcases h with rfl | ⟨g, rfl, h0, h1⟩
  all_goals
    go_enter Try.func17, Try.ntmps17
    go_wp2
    go_ret
    exact ⟨rfl, rfl⟩
theorem left (p : Option Addr) (x : Int) (w : World) (h : Null w p) : Calls Try.prog 10 #[.pointer p, .int .u32 x] w fun e w' => e = .returned (.tuple #[.int .i64 0, .bool false]) ∧ w' = w := by
  have H := Lib.hid h
  clear h
  go_enter Try.func10, Try.ntmps10
  go_wp2_with fail
  refine (there p w H.out).mono ?_
  rintro e w' ⟨rfl, rfl⟩
  go_wp2
  go_ret2
  exact ⟨rfl, rfl⟩
theorem set (p : Option Addr) (x n : Int) (w : World) (h : Null w p) : Calls Try.prog 11 #[.pointer p, .int .u32 x, .int .i64 n] w fun e w' => e = .returned (.int .i64 2) ∧ w' = w := by
  have H := Lib.hid h
  clear h
  go_enter Try.func11, Try.ntmps11
  go_wp2_with fail
  refine (there p w H.out).mono ?_
  rintro e w' ⟨rfl, rfl⟩
  go_wp2
  go_ret
  exact ⟨rfl, rfl⟩
theorem clear_ (p : Option Addr) (x : Int) (w : World) (h : Null w p) : Calls Try.prog 12 #[.pointer p, .int .u32 x] w fun e w' => e = .returned (.int .i64 2) ∧ w' = w := by
  have H := Lib.hid h
  clear h
  go_enter Try.func12, Try.ntmps12
  go_wp2_with fail
  refine (there p w H.out).mono ?_
  rintro e w' ⟨rfl, rfl⟩
  go_wp2
  go_ret
  exact ⟨rfl, rfl⟩
theorem tick (p : Option Addr) (w : World) (h : Null w p) : Calls Try.prog 13 #[.pointer p] w fun e w' => e = .returned (.slice none 0 0) ∧ w' = w := by
  have H := Lib.hid h
  clear h
  go_enter Try.func13, Try.ntmps13
  go_wp2_with fail
  refine (there p w H.out).mono ?_
  rintro e w' ⟨rfl, rfl⟩
  go_wp2
  go_ret
  exact ⟨rfl, rfl⟩

set_option maxHeartbeats 1000000 in
set_option maxRecDepth 100000 in
theorem law (x n : Int) (w : World) :
    Calls Try.prog 3 #[.int .u32 x, .int .i64 n] w fun e w' => e = .returned (.bool true) ∧ Below w.heap.size w w' := by
  go_enter Try.func3, Try.ntmps3
  go_wp2
  have hb0 : Below w.heap.size w ((w.alloc (.cells #[.int .i64 0, .map none] 26)).alloc (.cells #[.pointer none, .pointer (some ⟨w.heap.size, 0, none⟩)] 23)) :=
    ((Below.refl _ _).alloc (Nat.le_refl _) _).alloc (by simp) _
  obtain ⟨W, hW⟩ : ∃ W, W = ((w.alloc (.cells #[.int .i64 0, .map none] 26)).alloc (.cells #[.pointer none, .pointer (some ⟨w.heap.size, 0, none⟩)] 23)) := ⟨_, rfl⟩
  rw [← hW] at hb0 ⊢
  have g1 : W.heap[w.heap.size + 1]? = some (.cells #[.pointer none, .pointer (some ⟨w.heap.size, 0, none⟩)] 23 (0, 0)) := by
    subst hW
    have h := heap_alloc_new (w.alloc (.cells #[.int .i64 0, .map none] 26)) (.cells #[.pointer none, .pointer (some ⟨w.heap.size, 0, none⟩)] 23)
    simpa using h
  have g2 : W.heap[w.heap.size]? = some (.cells #[.int .i64 0, .map none] 26 (0, 0)) := by
    subst hW
    rw [Below.heap_alloc _ _ _ (by simp)]
    exact heap_alloc_new _ _
  have hnul : Null W (some ⟨w.heap.size, 0, none⟩) := .inr ⟨_, rfl, by rw [cell_of_row _ _ _ _ _ _ g2]; rfl, by rw [cell_of_row _ _ _ _ _ _ g2]; rfl⟩
  have hc0 : W.cell? ⟨w.heap.size + 1, 0, none⟩ = some (.pointer none) := by rw [cell_of_row _ _ _ _ _ _ g1]; rfl
  have hc1 : W.cell? ⟨w.heap.size + 1, 1, none⟩ = some (.pointer (some ⟨w.heap.size, 0, none⟩)) := by rw [cell_of_row _ _ _ _ _ _ g1]; rfl
  have HN := Lib.hid hnul
  have HB := Lib.hid hb0
  clear hW hb0 g1 g2 hnul
  go_loopw [6] (fun i wr => ∃ k : Nat, k ≤ 2 ∧ i = .int .i64 k ∧ wr = W) (fun i _ => 2 - (intOf i).toNat)
  case atStart => exact ⟨0, by omega, rfl, rfl⟩
  case round =>
    obtain ⟨j, hj, rfl, rfl⟩ := hrel
    by_cases hlt : j < 2
    · obtain ⟨p, hp, hpn⟩ : ∃ p, wr.cell? ⟨w.heap.size + 1, j, none⟩ = some (.pointer p) ∧ Null wr p := by
        rcases (show j = 0 ∨ j = 1 by omega) with rfl | rfl
        · exact ⟨_, hc0, .inl rfl⟩
        · exact ⟨_, hc1, HN.out⟩
      have HP := Lib.hid hpn
      clear hpn hc0 hc1 HN
      go_wp2_with fail
      refine (left p x _ HP.out).mono ?_
      rintro e w2 ⟨rfl, h⟩
      subst h
      go_wp2_with fail
      refine (set p x n _ HP.out).mono ?_
      rintro e w2 ⟨rfl, h⟩
      subst h
      go_wp2_with fail
      refine (clear_ p x _ HP.out).mono ?_
      rintro e w2 ⟨rfl, h⟩
      subst h
      go_wp2_with fail
      refine (tick p _ HP.out).mono ?_
      rintro e w2 ⟨rfl, h⟩
      subst h
      go_wp2
      go_roundw
      case rel => exact ⟨j + 1, by omega, rfl, by first | rfl | trivial⟩
      case measure => simp [intOf]; omega
    · obtain rfl : j = 2 := by omega
      go_wp2
      go_ret
      exact ⟨rfl, HB.out⟩
end Go.Proofs.Ytlhdofkdjlpheaa.ClockNull
namespace Go.Proofs.Ytlhdofkdjlpheaa.Pl
open Go Go.RowKit
theorem ClocksNone_law (a0 : Int) (a1 : Int) (W : World) (_ : (Lit.int .u32 a0).wf = true) (_ : (Lit.int .i64 a1).wf = true) : Calls Try.prog 3 #[.int .u32 a0, .int .i64 a1] W fun e w' => e = .returned (.bool true) ∧ Below W.heap.size W w' := ClockNull.law a0 a1 W
end Go.Proofs.Ytlhdofkdjlpheaa.Pl
