/- A disk that is not there, or that no call made. -/
import Derived.Test.YtkokdpnnmkphmaaProg
import Derived.Test.YtkokdpnnmkphmaaOwn
import Derived.ProofKit
import Derived.OpenShut
import Derived.KernelRfl
import Derived.Lib.Hide
import Derived.Deep.LoopGhost
namespace Go.Proofs.Ytkokdpnnmkphmaa.DiskNull
open Go.RowKit Base Own

def Null (w : World) (p : Option Addr) : Prop :=
  p = none ∨ ∃ g, p = some ⟨g, 0, none⟩ ∧ w.cell? ⟨g, 0, none⟩ = some (.slice none 0 0) ∧ w.cell? ⟨g, 1, none⟩ = some (.slice none 0 0) ∧ w.cell? ⟨g, 2, none⟩ = some (.slice none 0 0)
theorem size (p : Option Addr) (w : World) (h : Null w p) : Calls Try.prog 14 #[.pointer p] w fun e w' => e = .returned (.int .i64 0) ∧ w' = w := by
  rcases h with rfl | ⟨g, rfl, h0, h1, h2⟩
  all_goals
    go_enter Try.func14, Try.ntmps14
    go_wp2
    go_ret
    exact ⟨rfl, rfl⟩
theorem waits (p : Option Addr) (w : World) (h : Null w p) : Calls Try.prog 15 #[.pointer p] w fun e w' => e = .returned (.int .i64 0) ∧ w' = w := by
  rcases h with rfl | ⟨g, rfl, h0, h1, h2⟩
  all_goals
    go_enter Try.func15, Try.ntmps15
    go_wp2
    go_ret
    exact ⟨rfl, rfl⟩
theorem may (p : Option Addr) (x : Int) (w : World) (h : Null w p) : Calls Try.prog 21 #[.pointer p, .int .i64 x] w fun e w' => e = .returned (.int .i64 2) ∧ w' = w := by
  have H := Lib.hid h
  clear h
  go_enter Try.func21, Try.ntmps21
  go_wp2_with fail
  refine (size p w H.out).mono ?_
  rintro e w' ⟨rfl, rfl⟩
  go_wp2
  go_ret
  exact ⟨rfl, rfl⟩
theorem read (p : Option Addr) (x : Int) (w : World) (h : Null w p) : Calls Try.prog 10 #[.pointer p, .int .i64 x] w fun e w' => e = .returned (.tuple #[.slice none 0 0, .int .i64 2]) ∧ w' = w := by
  have H := Lib.hid h
  clear h
  go_enter Try.func10, Try.ntmps10
  go_wp2_with fail
  refine (may p x w H.out).mono ?_
  rintro e w' ⟨rfl, rfl⟩
  go_wp2
  go_ret2
  exact ⟨rfl, rfl⟩
theorem fail_ (p : Option Addr) (k x : Int) (w : World) (h : Null w p) : Calls Try.prog 11 #[.pointer p, .int .u64 k, .int .i64 x] w fun e w' => e = .returned (.tuple #[.pointer none, .int .i64 2]) ∧ w' = w := by
  have H := Lib.hid h
  clear h
  go_enter Try.func11, Try.ntmps11
  go_wp2_with fail
  refine (size p w H.out).mono ?_
  rintro e w' ⟨rfl, rfl⟩
  go_wp2
  go_ret2
  exact ⟨rfl, rfl⟩
theorem write (p : Option Addr) (x : Int) (v : Value) (w : World) (h : Null w p) : Calls Try.prog 12 #[.pointer p, .int .i64 x, v] w fun e w' => e = .returned (.int .i64 2) ∧ w' = w := by
  have H := Lib.hid h
  clear h
  go_enter Try.func12, Try.ntmps12
  go_wp2_with fail
  refine (may p x w H.out).mono ?_
  rintro e w' ⟨rfl, rfl⟩
  go_wp2
  go_ret
  exact ⟨rfl, rfl⟩
theorem sync (p : Option Addr) (w : World) (h : Null w p) : Calls Try.prog 13 #[.pointer p] w fun e w' => e = .returned (.int .i64 2) ∧ w' = w := by
  have H := Lib.hid h
  clear h
  go_enter Try.func13, Try.ntmps13
  go_wp2_with fail
  refine (size p w H.out).mono ?_
  rintro e w' ⟨rfl, rfl⟩
  go_wp2
  go_ret
  exact ⟨rfl, rfl⟩

set_option maxHeartbeats 1000000 in
set_option maxRecDepth 100000 in
theorem law (x : Int) (v : Value) (k : Int) (w : World) :
    Calls Try.prog 3 #[.int .i64 x, v, .int .u64 k] w fun e w' => e = .returned (.bool true) ∧ Below w.heap.size w w' := by
  go_enter Try.func3, Try.ntmps3
  go_wp2
  have hb0 : Below w.heap.size w ((w.alloc (.cells #[.slice none 0 0, .slice none 0 0, .slice none 0 0] 28)).alloc (.cells #[.pointer none, .pointer (some ⟨w.heap.size, 0, none⟩)] 24)) :=
    ((Below.refl _ _).alloc (Nat.le_refl _) _).alloc (by simp) _
  obtain ⟨W, hW⟩ : ∃ W, W = ((w.alloc (.cells #[.slice none 0 0, .slice none 0 0, .slice none 0 0] 28)).alloc (.cells #[.pointer none, .pointer (some ⟨w.heap.size, 0, none⟩)] 24)) := ⟨_, rfl⟩
  rw [← hW] at hb0 ⊢
  have g1 : W.heap[w.heap.size + 1]? = some (.cells #[.pointer none, .pointer (some ⟨w.heap.size, 0, none⟩)] 24 (0, 0)) := by
    subst hW
    have h := heap_alloc_new (w.alloc (.cells #[.slice none 0 0, .slice none 0 0, .slice none 0 0] 28)) (.cells #[.pointer none, .pointer (some ⟨w.heap.size, 0, none⟩)] 24)
    simpa using h
  have g2 : W.heap[w.heap.size]? = some (.cells #[.slice none 0 0, .slice none 0 0, .slice none 0 0] 28 (0, 0)) := by
    subst hW
    rw [Below.heap_alloc _ _ _ (by simp)]
    exact heap_alloc_new _ _
  have hnul : Null W (some ⟨w.heap.size, 0, none⟩) := .inr ⟨_, rfl, by rw [cell_of_row _ _ _ _ _ _ g2]; rfl, by rw [cell_of_row _ _ _ _ _ _ g2]; rfl, by rw [cell_of_row _ _ _ _ _ _ g2]; rfl⟩
  have hc0 : W.cell? ⟨w.heap.size + 1, 0, none⟩ = some (.pointer none) := by rw [cell_of_row _ _ _ _ _ _ g1]; rfl
  have hc1 : W.cell? ⟨w.heap.size + 1, 1, none⟩ = some (.pointer (some ⟨w.heap.size, 0, none⟩)) := by rw [cell_of_row _ _ _ _ _ _ g1]; rfl
  have HN := Lib.hid hnul
  have HB := Lib.hid hb0
  clear hW hb0 g1 g2 hnul
  go_loopw [8] (fun i wr => ∃ k : Nat, k ≤ 2 ∧ i = .int .i64 k ∧ wr = W) (fun i _ => 2 - (intOf i).toNat)
  case atStart => exact ⟨0, by omega, rfl, rfl⟩
  case round =>
    obtain ⟨j, hj, rfl, rfl⟩ := hrel
    by_cases hlt : j < 2
    · obtain ⟨p, hp, hpn⟩ : ∃ p, wr.cell? ⟨w.heap.size + 1, j, none⟩ = some (.pointer p) ∧ Null wr p := by
        rcases (show j = 0 ∨ j = 1 by omega) with rfl | rfl
        · exact ⟨_, hc0, .inl rfl⟩
        · exact ⟨_, hc1, HN.out⟩
      have HP := Lib.hid hpn
      clear hpn hc0 hc1 HN
      go_wp2_with fail
      refine (read p x _ HP.out).mono ?_
      rintro e w2 ⟨rfl, h⟩
      subst h
      go_wp2_with fail
      refine (fail_ p k x _ HP.out).mono ?_
      rintro e w2 ⟨rfl, h⟩
      subst h
      go_wp2_with fail
      refine (write p x v _ HP.out).mono ?_
      rintro e w2 ⟨rfl, h⟩
      subst h
      go_wp2_with fail
      refine (sync p _ HP.out).mono ?_
      rintro e w2 ⟨rfl, h⟩
      subst h
      go_wp2_with fail
      refine (size p _ HP.out).mono ?_
      rintro e w2 ⟨rfl, h⟩
      subst h
      go_wp2_with fail
      refine (waits p _ HP.out).mono ?_
      rintro e w2 ⟨rfl, h⟩
      subst h
      go_wp2
      go_roundw
      case rel => exact ⟨j + 1, by omega, rfl, by first | rfl | trivial⟩
      case measure => simp [intOf]; omega
    · obtain rfl : j = 2 := by omega
      go_wp2
      go_ret
      exact ⟨rfl, HB.out⟩
theorem sectorsNone (x : Int) (A : Option Addr) (c : Nat) (l : List Int) (k : Int) (w : World) (_ : (Lit.int .i64 x).wf = true) (_ : l.length ≤ c) (_ : l.length ≤ 140737488351232) (_ : ∀ n ∈ l, (Lit.int .u8 n).wf = true) (_ : Rd .u8 w A l) (_ : (Lit.int .u64 k).wf = true) :
    Calls Try.prog 3 #[.int .i64 x, .slice A l.length c, .int .u64 k] w fun e w' => e = .returned (.bool true) ∧ Below w.heap.size w w' := law x _ k w
end Go.Proofs.Ytkokdpnnmkphmaa.DiskNull
