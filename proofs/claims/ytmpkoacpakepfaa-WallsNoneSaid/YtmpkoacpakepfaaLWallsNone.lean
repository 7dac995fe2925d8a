/- WallsNone walked: a log that is not there, or that no call made; a disk of the same kind. -/
import Derived.Test.YtmpkoacpakepfaaDiskNull
import Derived.Test.YtmpkoacpakepfaaWn
import Derived.Test.YtmpkoacpakepfaaRow
import Derived.Test.YtmpkoacpakepfaaRdr
import Derived.ProofKit
import Derived.Lib.Hide
import Derived.Deep.LoopGhost
namespace Go.Proofs.Ytmpkoacpakepfaa.WallNull
open Go Go.RowKit Base Own Sx

def Null (w : World) (p : Option Addr) : Prop :=
  p = none ∨ ∃ g, p = some ⟨g, 0, none⟩ ∧ w.cell? ⟨g, 0, none⟩ = some (.pointer none) ∧ w.cell? ⟨g, 1, none⟩ = some (.int .i64 0)
theorem there (p : Option Addr) (w : World) (h : Null w p) : Calls Try.prog 24 #[.pointer p] w fun e w' => e = .returned (.bool false) ∧ w' = w := by
  rcases h with rfl | ⟨g, rfl, h0, h1⟩
  all_goals
    go_enter Try.func24, Try.ntmps24
    go_wp2
    go_ret
    exact ⟨rfl, rfl⟩
theorem add (p : Option Addr) (v : Value) (w : World) (h : Null w p) : Calls Try.prog 11 #[.pointer p, v] w fun e w' => e = .returned (.int .i64 2) ∧ w' = w := by
  have H := Lib.hid h
  clear h
  go_enter Try.func11, Try.ntmps11
  go_wp2_with fail
  refine (there p w H.out).mono ?_
  rintro e w' ⟨rfl, rfl⟩
  go_wp2
  go_ret
  exact ⟨rfl, rfl⟩
theorem force (p : Option Addr) (w : World) (h : Null w p) : Calls Try.prog 12 #[.pointer p] w fun e w' => e = .returned (.int .i64 2) ∧ w' = w := by
  have H := Lib.hid h
  clear h
  go_enter Try.func12, Try.ntmps12
  go_wp2_with fail
  refine (there p w H.out).mono ?_
  rintro e w' ⟨rfl, rfl⟩
  go_wp2
  go_ret
  exact ⟨rfl, rfl⟩
theorem room (p : Option Addr) (n : Int) (w : World) (h : Null w p) : Calls Try.prog 13 #[.pointer p, .int .i64 n] w fun e w' => e = .returned (.bool false) ∧ w' = w := by
  have H := Lib.hid h
  clear h
  go_enter Try.func13, Try.ntmps13
  go_wp2_with fail
  refine (there p w H.out).mono ?_
  rintro e w' ⟨rfl, rfl⟩
  go_wp2
  go_ret
  exact ⟨rfl, rfl⟩
theorem open_ {w0 w : World} {p : Option Addr} {R : List Asn} (h : ∀ w', Below w.heap.size w w' → DiskNull.Null w' p) (S : Sat w0 w R) : Calls Try.prog 14 #[.pointer p] w fun e w' => e = .returned (.tuple #[.pointer none, .slice none 0 0, .int .i64 2]) ∧ Sat w0 w' R := by
  refine calls_start (N := 83) [.pointer p] Try.func14 rfl rfl rfl (vok_c rfl rfl) fun a fr => ?_
  have S0 : Sat w w [] := Sat.start w
  skip; (repeat (with_reducible refine wp_seq ?_)); refine wp_region_lit ?_
  refine wl_allocv (v := .pointer none) fr rfl rfl rfl rfl zeroLP rfl rfl S0 ?_
  intro w1 b2 S1 a fr
  refine wl_allocv (v := .slice none 0 0) fr rfl rfl rfl rfl zeroRS rfl rfl S1 ?_
  intro w2 b3 S2 a fr
  refine wl_run orcL_ok 1 rfl fr fun a fr => ?_
  refine wpList_nil ?_; (repeat (with_reducible refine then_n ?_))
  skip; (repeat (with_reducible refine wp_seq ?_)); refine wp_region_lit ?_
  refine wl_run orcL_ok 1 rfl fr fun a fr => ?_
  refine wl_call fr rfl rfl rfl rfl enSize (DiskNull.size p w2 (h w2 S2.below)) ?_
  rintro _ w3 ⟨rfl, hw⟩
  subst hw
  refine ⟨_, rfl, rfl, fun a fr => ?_⟩
  refine wl_run orcL_ok 1 rfl fr fun a fr => ?_
  refine wpList_nil ?_; (repeat (with_reducible refine then_n ?_))
  skip; (repeat (with_reducible refine wp_seq ?_))
  refine cw_t fr rfl ?_
  have S3 : Sat w w3 (stA 23 b2 [.pointer none] :: stA 34 b3 [.slice none 0 0] :: []) := S2.frontAt 1 rfl
  skip; (repeat (with_reducible refine wp_seq ?_)); refine wp_region_lit ?_
  refine wl_stv orcL_ok fr rfl rfl rfl rfl rfl rfl rfl rfl S3 ?_
  intro w4 S4
  have S4 : Sat w w4 (stA 34 b3 [.slice none 0 0] :: stA 23 b2 [.pointer none] :: []) := S4.frontAt 1 rfl
  refine wl_stv orcL_ok fr rfl rfl rfl rfl rfl rfl rfl rfl S4 ?_
  intro w5 S5
  refine wl_run orcL_ok 1 rfl fr fun a fr => ?_
  refine wpList_nil ?_; (repeat (with_reducible refine then_n ?_))
  refine wp_ret ?_
  skip; (repeat (first | (with_reducible refine then_r ?_) | (with_reducible refine blk_r ?_) | (with_reducible refine ng_r ?_)))
  refine bodyPost_ret (results_cct orcL_ok rfl fr rfl rfl rfl rfl rfl rfl rfl (Sat.varAt S5 1 rfl).1 (Sat.varAt S5 0 rfl).1) fr.defers ?_
  exact ⟨rfl, S.new S5.below⟩
set_option maxHeartbeats 1000000 in
set_option maxRecDepth 100000 in
theorem law (v : Value) (n : Int) (w : World) :
    Calls Try.prog 3 #[v, .int .i64 n] w fun e w' => e = .returned (.bool true) ∧ Below w.heap.size w w' := by
  go_enter Try.func3, Try.ntmps3
  go_wp2
  have hb0 : Below w.heap.size w ((w.alloc (.cells #[.pointer none, .int .i64 0] 28)).alloc (.cells #[.pointer none, .pointer (some ⟨w.heap.size, 0, none⟩)] 23)) :=
    ((Below.refl _ _).alloc (Nat.le_refl _) _).alloc (by simp) _
  obtain ⟨W, hW⟩ : ∃ W, W = ((w.alloc (.cells #[.pointer none, .int .i64 0] 28)).alloc (.cells #[.pointer none, .pointer (some ⟨w.heap.size, 0, none⟩)] 23)) := ⟨_, rfl⟩
  rw [← hW] at hb0 ⊢
  have g1 : W.heap[w.heap.size + 1]? = some (.cells #[.pointer none, .pointer (some ⟨w.heap.size, 0, none⟩)] 23 (0, 0)) := by
    subst hW
    have h := heap_alloc_new (w.alloc (.cells #[.pointer none, .int .i64 0] 28)) (.cells #[.pointer none, .pointer (some ⟨w.heap.size, 0, none⟩)] 23)
    simpa using h
  have g2 : W.heap[w.heap.size]? = some (.cells #[.pointer none, .int .i64 0] 28 (0, 0)) := by
    subst hW
    rw [Below.heap_alloc _ _ _ (by simp)]
    exact heap_alloc_new _ _
  have hnul : Null W (some ⟨w.heap.size, 0, none⟩) := .inr ⟨_, rfl, by rw [cell_of_row _ _ _ _ _ _ g2]; rfl, by rw [cell_of_row _ _ _ _ _ _ g2]; rfl⟩
  have hc0 : W.cell? ⟨w.heap.size + 1, 0, none⟩ = some (.pointer none) := by rw [cell_of_row _ _ _ _ _ _ g1]; rfl
  have hc1 : W.cell? ⟨w.heap.size + 1, 1, none⟩ = some (.pointer (some ⟨w.heap.size, 0, none⟩)) := by rw [cell_of_row _ _ _ _ _ _ g1]; rfl
  have HN := Lib.hid hnul
  have HB := Lib.hid hb0
  clear hW hb0 g1 g2 hnul
  go_loopw [6] (fun i wr => ∃ k : Nat, k ≤ 2 ∧ i = .int .i64 k ∧ wr = W) (fun i _ => 2 - (intOf i).toNat)
  case atStart => exact ⟨0, by omega, rfl, rfl⟩
  case round =>
    obtain ⟨j, hj, rfl, rfl⟩ := hrel
    by_cases hlt : j < 2
    · obtain ⟨p, hp, hpn⟩ : ∃ p, wr.cell? ⟨w.heap.size + 1, j, none⟩ = some (.pointer p) ∧ Null wr p := by
        rcases (show j = 0 ∨ j = 1 by omega) with rfl | rfl
        · exact ⟨_, hc0, .inl rfl⟩
        · exact ⟨_, hc1, HN.out⟩
      have HP := Lib.hid hpn
      clear hpn hc0 hc1 HN
      go_wp2_with fail
      refine (add p v _ HP.out).mono ?_
      rintro e w2 ⟨rfl, h⟩
      subst h
      go_wp2_with fail
      refine (force p _ HP.out).mono ?_
      rintro e w2 ⟨rfl, h⟩
      subst h
      go_wp2_with fail
      refine (room p n _ HP.out).mono ?_
      rintro e w2 ⟨rfl, h⟩
      subst h
      go_wp2
      go_roundw
      case rel => exact ⟨j + 1, by omega, rfl, by first | rfl | trivial⟩
      case measure => simp [intOf]; omega
    · obtain rfl : j = 2 := by omega
      clear hc0 hc1 HN
      go_wp2_with fail
      refine (open_ (p := none) (fun w' _ => .inl rfl) (Sat.start wr)).mono ?_
      rintro e w2 ⟨rfl, hS⟩
      have HS := Lib.hid hS
      clear hS
      go_wp2_with fail
      refine (open_ (fun w' hb => .inr ⟨_, rfl, ?_, ?_, ?_⟩) (Sat.start _)).mono ?_
      rotate_left 3
      · rintro e w3 ⟨rfl, hS2⟩
        have HS2 := Lib.hid hS2
        clear hS2
        go_wp2
        go_ret
        have hw : w.heap.size ≤ wr.heap.size := HB.out.size
        have hw2 : wr.heap.size ≤ w2.heap.size := HS.out.below.size
        refine ⟨rfl, HB.out.trans ((below_weak hw HS.out.below).trans (((Below.refl w.heap.size w2).alloc (by omega) _).trans (below_weak ?_ HS2.out.below)))⟩
        simp; omega
      all_goals
        rw [hb.cell (by simp), cell_of_row _ _ _ _ _ _ (heap_alloc_new w2 _)]
        rfl
end Go.Proofs.Ytmpkoacpakepfaa.WallNull
namespace Go.Proofs.Ytmpkoacpakepfaa.Pl
open Go Go.RowKit Base
theorem WallsNone_law (A0 : Option Addr) (c0 : Nat) (l0 : List Int) (a1 : Int) (W : World) (_ : l0.length ≤ c0) (_ : c0 ≤ maxLen) (_ : l0.length ≤ 140737488351232) (_ : ∀ n ∈ l0, (Lit.int .u8 n).wf = true) (_ : Rd .u8 W A0 l0) (_ : (Lit.int .i64 a1).wf = true) : Calls Try.prog 3 #[.slice A0 l0.length c0, .int .i64 a1] W fun e w' => e = .returned (.bool true) ∧ Below W.heap.size W w' := WallNull.law _ a1 W
end Go.Proofs.Ytmpkoacpakepfaa.Pl
