/- Walks over the program's functions, printed by a program of this work (wip/tools/shal.py): each call does what the plain function says. -/
import Derived.Test.YtjdholnlbhkmeaaProg
import Derived.Test.YtjdholnlbhkmeaaTx
import Derived.Test.YtjdholnlbhkmeaaPool
import Derived.Test.YtjdholnlbhkmeaaRa
import Derived.Test.YtjdholnlbhkmeaaSo
import Derived.Test.YtjdholnlbhkmeaaDRingsTwo
namespace Go.Proofs.Ytjdholnlbhkmeaa.Pl
open Go Go.RowKit Sx Base Own

def orc : Orc := ⟨[(4, .bool), (22, .slice 23), (23, .int .u32), (24, .array 2 23), (41, .slice 24)],
  [(23, 1), (24, 2)]⟩
theorem orc_ok : orc.Ok Try.prog := ⟨⟨Try.underlying4, Try.underlying22, Try.underlying23, Try.underlying24, Try.underlying41, trivial⟩, ⟨by kernel_rfl, by kernel_rfl, trivial⟩⟩
theorem en13 : Enters Try.prog 13 := fun _ _ => by kernel_rfl
theorem en14 : Enters Try.prog 14 := fun _ _ => by kernel_rfl
theorem en17 : Enters Try.prog 17 := fun _ _ => by kernel_rfl
theorem en18 : Enters Try.prog 18 := fun _ _ => by kernel_rfl
theorem en20 : Enters Try.prog 20 := fun _ _ => by kernel_rfl
theorem en23 : Enters Try.prog 23 := fun _ _ => by kernel_rfl
theorem lit22 : RowTy Try.prog 22 23 .u32 := ⟨Try.underlying22, 4, by decide, by kernel_rfl⟩
set_option maxRecDepth 100000 in
set_option maxHeartbeats 4000000 in
theorem SameIds.walk (k : Nat) (A0 : Option Addr) (c0 : Nat) (l0 : List Int) (A1 : Option Addr) (c1 : Nat) (l1 : List Int) {w0 w : World} {R : List Asn} (rk0 : Rk .u32 w A0 l0) (m0 : l0.length ≤ c0 ∧ c0 ≤ maxLen) (rk1 : Rk .u32 w A1 l1) (m1 : l1.length ≤ c1 ∧ c1 ≤ maxLen) (S : Sat w0 w R) {r : Bool} (h : SameIds.f k l0 l1 = some r) :
    Calls Try.prog 20 #[(.slice A0 (List.length l0) c0), (.slice A1 (List.length l1) c1)] w fun e w' => e = .returned (.bool r) ∧ vok (.bool r) = true ∧ Sat w0 w' R := by
  have key : ∀ w0 : World, w0 = w → Sat w0 w [] → Calls Try.prog 20 #[(.slice A0 (List.length l0) c0), (.slice A1 (List.length l1) c1)] w fun e w' => e = .returned (.bool r) ∧ vok (.bool r) = true ∧ Sat w0 w' [] := by
    clear S
    intro w0 hw S
    rw [← hw] at rk0
    rw [← hw] at rk1
    clear hw
    unfold SameIds.f at h
    refine calls_start (N := 26) [(.slice A0 (List.length l0) c0), (.slice A1 (List.length l1) c1)] Try.func20 rfl rfl rfl (vok_c (vok_sl m0) (vok_c (vok_sl m1) rfl)) fun a fr => ?_
    refine wp_seq ?_
    refine wp_region_lit ?_
    refine wl_run orc_ok 1 rfl fr fun a fr => ?_
    refine wpList_nil ?_
    refine then_n ?_
    refine wp_seq ?_
    refine wp_seq ?_
    refine wp_region_lit ?_
    refine wl_run orc_ok 5 rfl fr fun a fr => ?_
    refine wpList_nil ?_
    refine then_n ?_
    refine cw_if fr rfl h (fun h => ?_) (fun h => ?_)
    · refine wp_seq ?_
      refine wp_region_lit ?_
      refine wl_run orc_ok 1 rfl fr fun a fr => ?_
      refine wpList_nil ?_
      refine then_n ?_
      refine wp_ret ?_
      refine then_r ?_
      injection h with h
      subst h
      refine ret1 fr rfl rfl ?_
      exact ⟨rfl, fr.vok (d := 4) rfl, S.mask []⟩
    · refine wp_skip ?_
      refine then_n ?_
      refine wp_seq ?_
      refine wp_seq ?_
      refine wp_region_lit ?_
      refine wl_run orc_ok 1 rfl fr fun a fr => ?_
      refine wpList_nil ?_
      refine then_n ?_
      refine wp_block ?_
      refine cw_loop (fun k1 a w => ∃ x1 : Int, Fr 26 a [(0, (.slice A0 (List.length l0) c0)), (1, (.slice A1 (List.length l1) c1)), (5, (.int .i64 x1))] ∧ Sat w0 w [] ∧ (SameIds.l1 k1 l0 l1 x1) = some r) k ⟨(0 : Int), fr.sub ⟨rfl, rfl, rfl, trivial⟩, S, h⟩ ?_ ?_
      · rintro a w ⟨x1, -, -, h⟩
        simp only [SameIds.l1] at h
        cases h
      · rintro k1 a w ⟨x1, fr, S, h⟩
        rw [SameIds.l1] at h
        refine wp_seq ?_
        refine wp_seq ?_
        refine wp_region_lit ?_
        refine wl_run orc_ok 4 rfl fr fun a fr => ?_
        refine wpList_nil ?_
        refine then_n ?_
        refine cw_if fr rfl h (fun h => ?_) (fun h => ?_)
        · refine wp_skip ?_
          refine then_n ?_
          refine wp_seq ?_
          refine wp_block ?_
          refine wp_seq ?_
          refine wp_region_sl [.one (0, true, some 17), .one (1, true, some 18), .one (2, true, some 19), .one (3, true, some 20), .one (4, true, some 21), .one (5, true, some 22), .one (6, true, some 23), .one (7, true, some 24), .one (8, true, some 25)]
            [.one ⟨true, some 17, (Go.Op.move (Go.Operand.tmp 0)), 22, none⟩,
    .one ⟨true, some 18, (Go.Op.move (Go.Operand.tmp 5)), 3, none⟩,
    .one ⟨true, some 19, (Go.Op.indexAddr 22 (Go.Operand.tmp 17) (Go.Operand.tmp 18)), 0, none⟩,
    .one ⟨true, some 20, (Go.Op.load 23 (Go.Operand.tmp 19)), 23, none⟩,
    .one ⟨true, some 21, (Go.Op.move (Go.Operand.tmp 1)), 22, none⟩,
    .one ⟨true, some 22, (Go.Op.move (Go.Operand.tmp 5)), 3, none⟩,
    .one ⟨true, some 23, (Go.Op.indexAddr 22 (Go.Operand.tmp 21) (Go.Operand.tmp 22)), 0, none⟩,
    .one ⟨true, some 24, (Go.Op.load 23 (Go.Operand.tmp 23)), 23, none⟩,
    .one ⟨true, some 25, (Go.Op.binOp Go.BinOp.neq 23 (Go.Operand.tmp 20) (Go.Operand.tmp 24) 23), 4, none⟩]
            (fun w => Sat w0 w []) rfl (by kernel_rfl) (by kernel_rfl) (S.drew.mask []) ?_
          have S := S.drew
          refine sl_run orc_ok 2 rfl fr fun a fr => ?_
          obtain ⟨hc, h⟩ := ifs h
          refine sl_ld orc_ok (fun _ S => Rk.at rk0 S) fr rfl rfl rfl rfl rfl rfl rfl rfl rfl rfl rfl rfl rfl rfl rfl rfl rfl rfl hc (Sat.mask S []) fun a fr => ?_
          refine sl_run orc_ok 2 rfl fr fun a fr => ?_
          obtain ⟨hc, h⟩ := ifs h
          refine sl_ld orc_ok (fun _ S => Rk.at rk1 S) fr rfl rfl rfl rfl rfl rfl rfl rfl rfl rfl rfl rfl rfl rfl rfl rfl rfl rfl hc (Sat.mask S []) fun a fr => ?_
          refine sl_run orc_ok 1 rfl fr fun a fr => ?_
          refine sl_end ?_
          refine then_n ?_
          refine cw_if fr rfl h (fun h => ?_) (fun h => ?_)
          · refine wp_seq ?_
            refine wp_region_lit ?_
            refine wl_run orc_ok 1 rfl fr fun a fr => ?_
            refine wpList_nil ?_
            refine then_n ?_
            refine wp_ret ?_
            refine blk_r ?_
            refine then_r ?_
            refine then_r ?_
            refine blk_r ?_
            refine then_r ?_
            injection h with h
            subst h
            refine ret1 fr rfl rfl ?_
            exact ⟨rfl, fr.vok (d := 4) rfl, S.mask []⟩
          · refine wp_skip ?_
            refine blk_n ?_
            refine then_n ?_
            refine wp_region_lit ?_
            refine wl_run orc_ok 3 rfl fr fun a fr => ?_
            refine wpList_nil ?_
            exact ⟨(IntKind.wrap .i64 (x1 + (1 : Int))), fr.sub ⟨rfl, rfl, rfl, trivial⟩, S, h⟩
        · refine wp_exit ?_
          refine then_e ?_
          refine then_e ?_
          refine blk_y ?_
          refine then_n ?_
          refine wp_seq ?_
          refine wp_region_lit ?_
          refine wl_run orc_ok 1 rfl fr fun a fr => ?_
          refine wpList_nil ?_
          refine then_n ?_
          refine wp_ret ?_
          injection h with h
          subst h
          refine ret1 fr rfl rfl ?_
          exact ⟨rfl, fr.vok (d := 4) rfl, S.mask []⟩
  exact (key w rfl (Sat.start w)).mono fun e w' ⟨h1, h2, h3⟩ => ⟨h1, h2, S.new h3.below⟩
set_option maxRecDepth 100000 in
set_option maxHeartbeats 4000000 in
theorem alive.walk (k : Nat)  {w0 w : World} {R : List Asn}  (S : Sat w0 w R) {r : Bool} (h : alive.f k = some r) :
    Calls Try.prog 17 #[] w fun e w' => e = .returned (.bool r) ∧ vok (.bool r) = true ∧ Sat w0 w' R := by
  have key : ∀ w0 : World, w0 = w → Sat w0 w [] → Calls Try.prog 17 #[] w fun e w' => e = .returned (.bool r) ∧ vok (.bool r) = true ∧ Sat w0 w' [] := by
    clear S
    intro w0 hw S
    clear hw
    unfold alive.f at h
    refine calls_start (N := 108) [] Try.func17 rfl rfl rfl rfl fun a fr => ?_
    refine wp_seq ?_
    refine wp_region_lit ?_
    refine wl_run orc_ok 1 rfl fr fun a fr => ?_
    refine wpList_nil ?_
    refine then_n ?_
    refine wp_seq ?_
    refine wp_region_lit ?_
    refine wl_lit (xs := [(1 : Int), (2 : Int)]) orc_ok lit22 fr rfl rfl rfl rfl ⟨rfl, rfl, rfl, rfl, trivial⟩ rfl rfl S ?_
    intro w A1 c2 S
    intro a fr
    have hv := (fr.vok (d := 18) rfl)
    refine wl_call fr rfl rfl rfl rfl en23 (ids_call hv) ?_
    rintro _ w ⟨rfl, hw⟩
    subst hw
    refine ⟨_, rfl, hv, fun a fr => ?_⟩
    refine wl_lit (xs := [(2 : Int), (3 : Int)]) orc_ok lit22 fr rfl rfl rfl rfl ⟨rfl, rfl, rfl, rfl, trivial⟩ rfl rfl S ?_
    intro w A3 c4 S
    intro a fr
    have hv := (fr.vok (d := 20) rfl)
    refine wl_call fr rfl rfl rfl rfl en23 (ids_call hv) ?_
    rintro _ w ⟨rfl, hw⟩
    subst hw
    refine ⟨_, rfl, hv, fun a fr => ?_⟩
    obtain ⟨hc, h⟩ := ifs h
    obtain ⟨y5, hx, h⟩ := lt_h h
    obtain ⟨y6, hx2, h⟩ := lt_h h
    have H := closes_call (A := A1) (c := c2) (l := [(1 : Int), (2 : Int)]) (A1 := A3) (c1 := c4) (l1 := [(2 : Int), (3 : Int)]) (who := (3 : Int)) (whom := (1 : Int)) (Sat.ownAt S 1 rfl) (Sat.ownAt S 0 rfl) (fr.slice (d := 19) rfl) (fr.slice (d := 21) rfl) rfl rfl hc S
    have hv := vok_cl (if List.length [(1 : Int), (2 : Int)] = List.length [(2 : Int), (3 : Int)] then comesB (List.zip [(1 : Int), (2 : Int)] [(2 : Int), (3 : Int)]) (1 : Int) (3 : Int) else false) (List.length [(1 : Int), (2 : Int)] = List.length [(2 : Int), (3 : Int)])
    rw [hx, hx2] at hv H
    refine wl_call fr rfl rfl rfl rfl en14 H ?_
    clear H
    rintro _ w ⟨rfl, S⟩
    refine ⟨_, rfl, hv, fun a fr => ?_⟩
    refine wl_run orc_ok 5 rfl fr fun a fr => ?_
    refine wpList_nil ?_
    refine then_n ?_
    refine wp_seq ?_
    refine wp_region_lit ?_
    refine wl_lit (xs := [(1 : Int), (2 : Int)]) orc_ok lit22 fr rfl rfl rfl rfl ⟨rfl, rfl, rfl, rfl, trivial⟩ rfl rfl S ?_
    intro w A7 c8 S
    intro a fr
    have hv := (fr.vok (d := 26) rfl)
    refine wl_call fr rfl rfl rfl rfl en23 (ids_call hv) ?_
    rintro _ w ⟨rfl, hw⟩
    subst hw
    refine ⟨_, rfl, hv, fun a fr => ?_⟩
    refine wl_lit (xs := [(2 : Int), (3 : Int)]) orc_ok lit22 fr rfl rfl rfl rfl ⟨rfl, rfl, rfl, rfl, trivial⟩ rfl rfl S ?_
    intro w A9 c10 S
    intro a fr
    have hv := (fr.vok (d := 28) rfl)
    refine wl_call fr rfl rfl rfl rfl en23 (ids_call hv) ?_
    rintro _ w ⟨rfl, hw⟩
    subst hw
    refine ⟨_, rfl, hv, fun a fr => ?_⟩
    obtain ⟨hc, h⟩ := ifs h
    obtain ⟨y11, hx, h⟩ := lt_h h
    obtain ⟨y12, hx2, h⟩ := lt_h h
    have H := closes_call (A := A7) (c := c8) (l := [(1 : Int), (2 : Int)]) (A1 := A9) (c1 := c10) (l1 := [(2 : Int), (3 : Int)]) (who := (1 : Int)) (whom := (3 : Int)) (Sat.ownAt S 1 rfl) (Sat.ownAt S 0 rfl) (fr.slice (d := 27) rfl) (fr.slice (d := 29) rfl) rfl rfl hc S
    have hv := vok_cl (if List.length [(1 : Int), (2 : Int)] = List.length [(2 : Int), (3 : Int)] then comesB (List.zip [(1 : Int), (2 : Int)] [(2 : Int), (3 : Int)]) (3 : Int) (1 : Int) else false) (List.length [(1 : Int), (2 : Int)] = List.length [(2 : Int), (3 : Int)])
    rw [hx, hx2] at hv H
    refine wl_call fr rfl rfl rfl rfl en14 H ?_
    clear H
    rintro _ w ⟨rfl, S⟩
    refine ⟨_, rfl, hv, fun a fr => ?_⟩
    refine wl_run orc_ok 5 rfl fr fun a fr => ?_
    refine wpList_nil ?_
    refine then_n ?_
    refine wp_seq ?_
    refine wp_region_lit ?_
    obtain ⟨hc, h⟩ := ifs h
    obtain ⟨y13, hx, h⟩ := lt_h h
    obtain ⟨y14, hx2, h⟩ := lt_h h
    have H := closes_call (A := none) (c := 0) (l := ([] : List Int)) (A1 := none) (c1 := 0) (l1 := ([] : List Int)) (who := (5 : Int)) (whom := (5 : Int)) Rk.nil Rk.nil ⟨Nat.le_refl _, Nat.zero_le _⟩ ⟨Nat.le_refl _, Nat.zero_le _⟩ rfl rfl hc S
    have hv := vok_cl (if List.length ([] : List Int) = List.length ([] : List Int) then comesB (List.zip ([] : List Int) ([] : List Int)) (5 : Int) (5 : Int) else false) (List.length ([] : List Int) = List.length ([] : List Int))
    rw [hx, hx2] at hv H
    refine wl_call fr rfl rfl rfl rfl en14 H ?_
    clear H
    rintro _ w ⟨rfl, S⟩
    refine ⟨_, rfl, hv, fun a fr => ?_⟩
    refine wl_run orc_ok 5 rfl fr fun a fr => ?_
    refine wpList_nil ?_
    refine then_n ?_
    refine wp_seq ?_
    refine wp_region_lit ?_
    refine wl_lit (xs := [(1 : Int)]) orc_ok lit22 fr rfl rfl rfl rfl ⟨rfl, rfl, trivial⟩ rfl rfl S ?_
    intro w A15 c16 S
    intro a fr
    have hv := (fr.vok (d := 38) rfl)
    refine wl_call fr rfl rfl rfl rfl en23 (ids_call hv) ?_
    rintro _ w ⟨rfl, hw⟩
    subst hw
    refine ⟨_, rfl, hv, fun a fr => ?_⟩
    obtain ⟨hc, h⟩ := ifs h
    obtain ⟨y17, hx, h⟩ := lt_h h
    obtain ⟨y18, hx2, h⟩ := lt_h h
    have H := closes_call (A := A15) (c := c16) (l := [(1 : Int)]) (A1 := none) (c1 := 0) (l1 := ([] : List Int)) (who := (1 : Int)) (whom := (2 : Int)) (Sat.ownAt S 0 rfl) Rk.nil (fr.slice (d := 39) rfl) ⟨Nat.le_refl _, Nat.zero_le _⟩ rfl rfl hc S
    have hv := vok_cl (if List.length [(1 : Int)] = List.length ([] : List Int) then comesB (List.zip [(1 : Int)] ([] : List Int)) (2 : Int) (1 : Int) else false) (List.length [(1 : Int)] = List.length ([] : List Int))
    rw [hx, hx2] at hv H
    refine wl_call fr rfl rfl rfl rfl en14 H ?_
    clear H
    rintro _ w ⟨rfl, S⟩
    refine ⟨_, rfl, hv, fun a fr => ?_⟩
    refine wl_run orc_ok 5 rfl fr fun a fr => ?_
    refine wpList_nil ?_
    refine then_n ?_
    refine wp_seq ?_
    refine wp_region_lit ?_
    refine wl_lit (xs := [(1 : Int), (2 : Int), (5 : Int)]) orc_ok lit22 fr rfl rfl rfl rfl ⟨rfl, rfl, rfl, rfl, rfl, rfl, trivial⟩ rfl rfl S ?_
    intro w A19 c20 S
    intro a fr
    have hv := (fr.vok (d := 44) rfl)
    refine wl_call fr rfl rfl rfl rfl en23 (ids_call hv) ?_
    rintro _ w ⟨rfl, hw⟩
    subst hw
    refine ⟨_, rfl, hv, fun a fr => ?_⟩
    refine wl_lit (xs := [(2 : Int), (3 : Int), (3 : Int)]) orc_ok lit22 fr rfl rfl rfl rfl ⟨rfl, rfl, rfl, rfl, rfl, rfl, trivial⟩ rfl rfl S ?_
    intro w A21 c22 S
    intro a fr
    have hv := (fr.vok (d := 46) rfl)
    refine wl_call fr rfl rfl rfl rfl en23 (ids_call hv) ?_
    rintro _ w ⟨rfl, hw⟩
    subst hw
    refine ⟨_, rfl, hv, fun a fr => ?_⟩
    obtain ⟨hc, h⟩ := ifs h
    obtain ⟨o23, hx, h⟩ := lt_h h
    have H := order_call (A := A19) (c := c20) (l := [(1 : Int), (2 : Int), (5 : Int)]) (A1 := A21) (c1 := c22) (l1 := [(2 : Int), (3 : Int), (3 : Int)]) (Sat.ownAt S 1 rfl) (Sat.ownAt S 0 rfl) (fr.slice (d := 45) rfl) (fr.slice (d := 47) rfl) hc S
    rw [hx] at H
    refine wl_call fr rfl rfl rfl rfl en18 H ?_
    clear H
    rintro _ w ⟨A24, c25, rfl, hv, S⟩
    refine ⟨_, rfl, hv, fun a fr => ?_⟩
    refine wl_run orc_ok 5 rfl fr fun a fr => ?_
    refine wpList_nil ?_
    refine then_n ?_
    refine wp_seq ?_
    refine wp_region_lit ?_
    refine wl_lit (xs := [(1 : Int), (2 : Int)]) orc_ok lit22 fr rfl rfl rfl rfl ⟨rfl, rfl, rfl, rfl, trivial⟩ rfl rfl S ?_
    intro w A26 c27 S
    intro a fr
    have hv := (fr.vok (d := 52) rfl)
    refine wl_call fr rfl rfl rfl rfl en23 (ids_call hv) ?_
    rintro _ w ⟨rfl, hw⟩
    subst hw
    refine ⟨_, rfl, hv, fun a fr => ?_⟩
    refine wl_lit (xs := [(2 : Int), (1 : Int)]) orc_ok lit22 fr rfl rfl rfl rfl ⟨rfl, rfl, rfl, rfl, trivial⟩ rfl rfl S ?_
    intro w A28 c29 S
    intro a fr
    have hv := (fr.vok (d := 54) rfl)
    refine wl_call fr rfl rfl rfl rfl en23 (ids_call hv) ?_
    rintro _ w ⟨rfl, hw⟩
    subst hw
    refine ⟨_, rfl, hv, fun a fr => ?_⟩
    obtain ⟨hc, h⟩ := ifs h
    obtain ⟨o30, hx, h⟩ := lt_h h
    have H := order_call (A := A26) (c := c27) (l := [(1 : Int), (2 : Int)]) (A1 := A28) (c1 := c29) (l1 := [(2 : Int), (1 : Int)]) (Sat.ownAt S 1 rfl) (Sat.ownAt S 0 rfl) (fr.slice (d := 53) rfl) (fr.slice (d := 55) rfl) hc S
    rw [hx] at H
    refine wl_call fr rfl rfl rfl rfl en18 H ?_
    clear H
    rintro _ w ⟨A31, c32, rfl, hv, S⟩
    refine ⟨_, rfl, hv, fun a fr => ?_⟩
    refine wl_run orc_ok 5 rfl fr fun a fr => ?_
    refine wpList_nil ?_
    refine then_n ?_
    refine wp_seq ?_
    refine wp_region_lit ?_
    refine wl_lit (xs := [(1 : Int)]) orc_ok lit22 fr rfl rfl rfl rfl ⟨rfl, rfl, trivial⟩ rfl rfl S ?_
    intro w A33 c34 S
    intro a fr
    have hv := (fr.vok (d := 60) rfl)
    refine wl_call fr rfl rfl rfl rfl en23 (ids_call hv) ?_
    rintro _ w ⟨rfl, hw⟩
    subst hw
    refine ⟨_, rfl, hv, fun a fr => ?_⟩
    refine wl_lit (xs := [(1 : Int)]) orc_ok lit22 fr rfl rfl rfl rfl ⟨rfl, rfl, trivial⟩ rfl rfl S ?_
    intro w A35 c36 S
    intro a fr
    have hv := (fr.vok (d := 62) rfl)
    refine wl_call fr rfl rfl rfl rfl en23 (ids_call hv) ?_
    rintro _ w ⟨rfl, hw⟩
    subst hw
    refine ⟨_, rfl, hv, fun a fr => ?_⟩
    obtain ⟨hc, h⟩ := ifs h
    obtain ⟨o37, hx, h⟩ := lt_h h
    have H := order_call (A := A33) (c := c34) (l := [(1 : Int)]) (A1 := A35) (c1 := c36) (l1 := [(1 : Int)]) (Sat.ownAt S 1 rfl) (Sat.ownAt S 0 rfl) (fr.slice (d := 61) rfl) (fr.slice (d := 63) rfl) hc S
    rw [hx] at H
    refine wl_call fr rfl rfl rfl rfl en18 H ?_
    clear H
    rintro _ w ⟨A38, c39, rfl, hv, S⟩
    refine ⟨_, rfl, hv, fun a fr => ?_⟩
    refine wl_run orc_ok 5 rfl fr fun a fr => ?_
    refine wpList_nil ?_
    refine then_n ?_
    refine wp_seq ?_
    refine wp_region_lit ?_
    obtain ⟨hc, h⟩ := ifs h
    obtain ⟨o40, hx, h⟩ := lt_h h
    have H := order_call (A := none) (c := 0) (l := ([] : List Int)) (A1 := none) (c1 := 0) (l1 := ([] : List Int)) Rk.nil Rk.nil ⟨Nat.le_refl _, Nat.zero_le _⟩ ⟨Nat.le_refl _, Nat.zero_le _⟩ hc S
    rw [hx] at H
    refine wl_call fr rfl rfl rfl rfl en18 H ?_
    clear H
    rintro _ w ⟨A41, c42, rfl, hv, S⟩
    refine ⟨_, rfl, hv, fun a fr => ?_⟩
    refine wl_run orc_ok 5 rfl fr fun a fr => ?_
    refine wpList_nil ?_
    refine then_n ?_
    refine wp_seq ?_
    refine wp_region_lit ?_
    refine wl_run orc_ok 2 rfl fr fun a fr => ?_
    refine wl_split 72 fr rfl h (fun fr h => ?_) (fun fr h => ?_)
    · refine wl_run orc_ok 4 rfl fr fun a fr => ?_
      refine wl_split 76 fr rfl h (fun fr h => ?_) (fun fr h => ?_)
      · refine wl_run orc_ok 3 rfl fr fun a fr => ?_
        refine wl_split 79 fr rfl h (fun fr h => ?_) (fun fr h => ?_)
        · refine wl_run orc_ok 4 rfl fr fun a fr => ?_
          refine wl_split 83 fr rfl h (fun fr h => ?_) (fun fr h => ?_)
          · refine wl_run orc_ok 3 rfl fr fun a fr => ?_
            refine wl_split 86 fr rfl h (fun fr h => ?_) (fun fr h => ?_)
            · refine wl_run orc_ok 1 rfl fr fun a fr => ?_
              refine wl_lit (xs := [(3 : Int), (2 : Int), (1 : Int), (5 : Int)]) orc_ok lit22 fr rfl rfl rfl rfl ⟨rfl, rfl, rfl, rfl, rfl, rfl, rfl, rfl, trivial⟩ rfl rfl S ?_
              intro w A43 c44 S
              intro a fr
              have hv := (fr.vok (d := 88) rfl)
              refine wl_call fr rfl rfl rfl rfl en23 (ids_call hv) ?_
              rintro _ w ⟨rfl, hw⟩
              subst hw
              refine ⟨_, rfl, hv, fun a fr => ?_⟩
              obtain ⟨r45, hr, h⟩ := bnd h
              refine wl_call fr rfl rfl rfl rfl en20 (SameIds.walk k A24 c25 (Option.getD o23 []) A43 c44 [(3 : Int), (2 : Int), (1 : Int), (5 : Int)] (Sat.ownAt S 8 rfl) (fr.slice (d := 87) rfl) (Sat.ownAt S 0 rfl) (fr.slice (d := 89) rfl) S hr) ?_
              rintro _ w ⟨rfl, hv, S⟩
              refine ⟨_, rfl, hv, fun a fr => ?_⟩
              refine wl_run orc_ok 2 rfl fr fun a fr => ?_
              refine wl_split 92 fr rfl h (fun fr h => ?_) (fun fr h => ?_)
              · refine wl_run orc_ok 4 rfl fr fun a fr => ?_
                refine wl_split 96 fr rfl h (fun fr h => ?_) (fun fr h => ?_)
                · refine wl_run orc_ok 4 rfl fr fun a fr => ?_
                  refine wl_split 100 fr rfl h (fun fr h => ?_) (fun fr h => ?_)
                  · refine wl_run orc_ok 3 rfl fr fun a fr => ?_
                    refine wl_split 103 fr rfl h (fun fr h => ?_) (fun fr h => ?_)
                    · refine wl_run orc_ok 5 rfl fr fun a fr => ?_
                      obtain ⟨y46, hx, h⟩ := lt_h h
                      have fr := fr.spell (d := 0) rfl (congrArg Value.bool hx)
                      refine wpList_nil ?_
                      refine then_n ?_
                      refine wp_ret ?_
                      injection h with h
                      subst h
                      refine ret1 fr rfl rfl ?_
                      exact ⟨rfl, fr.vok (d := 0) rfl, S.mask [false, false, false, false, false, false, false, false, false, false, false, false, false, false, false, false]⟩
                    · refine wl_run orc_ok 5 rfl fr fun a fr => ?_
                      refine wpList_nil ?_
                      refine then_n ?_
                      refine wp_ret ?_
                      injection h with h
                      subst h
                      refine ret1 fr rfl rfl ?_
                      exact ⟨rfl, fr.vok (d := 0) rfl, S.mask [false, false, false, false, false, false, false, false, false, false, false, false, false, false, false, false]⟩
                  · refine wl_run orc_ok 8 rfl fr fun a fr => ?_
                    refine wpList_nil ?_
                    refine then_n ?_
                    refine wp_ret ?_
                    injection h with h
                    subst h
                    refine ret1 fr rfl rfl ?_
                    exact ⟨rfl, fr.vok (d := 0) rfl, S.mask [false, false, false, false, false, false, false, false, false, false, false, false, false, false, false, false]⟩
                · refine wl_run orc_ok 12 rfl fr fun a fr => ?_
                  refine wpList_nil ?_
                  refine then_n ?_
                  refine wp_ret ?_
                  injection h with h
                  subst h
                  refine ret1 fr rfl rfl ?_
                  exact ⟨rfl, fr.vok (d := 0) rfl, S.mask [false, false, false, false, false, false, false, false, false, false, false, false, false, false, false, false]⟩
              · refine wl_run orc_ok 16 rfl fr fun a fr => ?_
                refine wpList_nil ?_
                refine then_n ?_
                refine wp_ret ?_
                injection h with h
                subst h
                refine ret1 fr rfl rfl ?_
                exact ⟨rfl, fr.vok (d := 0) rfl, S.mask [false, false, false, false, false, false, false, false, false, false, false, false, false, false, false, false]⟩
            · refine wl_run orc_ok 22 rfl fr fun a fr => ?_
              refine wpList_nil ?_
              refine then_n ?_
              refine wp_ret ?_
              injection h with h
              subst h
              refine ret1 fr rfl rfl ?_
              exact ⟨rfl, fr.vok (d := 0) rfl, S.mask [false, false, false, false, false, false, false, false, false, false, false, false, false, false, false]⟩
          · refine wl_run orc_ok 25 rfl fr fun a fr => ?_
            refine wpList_nil ?_
            refine then_n ?_
            refine wp_ret ?_
            injection h with h
            subst h
            refine ret1 fr rfl rfl ?_
            exact ⟨rfl, fr.vok (d := 0) rfl, S.mask [false, false, false, false, false, false, false, false, false, false, false, false, false, false, false]⟩
        · refine wl_run orc_ok 29 rfl fr fun a fr => ?_
          refine wpList_nil ?_
          refine then_n ?_
          refine wp_ret ?_
          injection h with h
          subst h
          refine ret1 fr rfl rfl ?_
          exact ⟨rfl, fr.vok (d := 0) rfl, S.mask [false, false, false, false, false, false, false, false, false, false, false, false, false, false, false]⟩
      · refine wl_run orc_ok 32 rfl fr fun a fr => ?_
        refine wpList_nil ?_
        refine then_n ?_
        refine wp_ret ?_
        injection h with h
        subst h
        refine ret1 fr rfl rfl ?_
        exact ⟨rfl, fr.vok (d := 0) rfl, S.mask [false, false, false, false, false, false, false, false, false, false, false, false, false, false, false]⟩
    · refine wl_run orc_ok 36 rfl fr fun a fr => ?_
      refine wpList_nil ?_
      refine then_n ?_
      refine wp_ret ?_
      injection h with h
      subst h
      refine ret1 fr rfl rfl ?_
      exact ⟨rfl, fr.vok (d := 0) rfl, S.mask [false, false, false, false, false, false, false, false, false, false, false, false, false, false, false]⟩
  exact (key w rfl (Sat.start w)).mono fun e w' ⟨h1, h2, h3⟩ => ⟨h1, h2, S.new h3.below⟩
set_option maxRecDepth 100000 in
set_option maxHeartbeats 4000000 in
theorem RingsTwo.walk (k : Nat) (A0 : Option Addr) (c0 : Nat) (l0 : List Int) (A1 : Option Addr) (c1 : Nat) (l1 : List Int) (A2 : Option Addr) (c2 : Nat) (l2 : List (List Int)) {w0 w : World} {R : List Asn} (rk0 : Rk .u32 w A0 l0) (m0 : l0.length ≤ c0 ∧ c0 ≤ maxLen) (rk1 : Rk .u32 w A1 l1) (m1 : l1.length ≤ c1 ∧ c1 ≤ maxLen) (rk2 : Rdr.Row (Rdr.arr 2 (Rdr.int .u32)) w A2 l2) (m2 : l2.length ≤ c2 ∧ c2 ≤ maxLen) (S : Sat w0 w R) {r : Bool} (h : RingsTwo.f k l0 l1 l2 = some r) :
    Calls Try.prog 12 #[(.slice A0 (List.length l0) c0), (.slice A1 (List.length l1) c1), (.slice A2 (List.length l2) c2)] w fun e w' => e = .returned (.bool r) ∧ vok (.bool r) = true ∧ Sat w0 w' R := by
  have key : ∀ w0 : World, w0 = w → Sat w0 w [] → Calls Try.prog 12 #[(.slice A0 (List.length l0) c0), (.slice A1 (List.length l1) c1), (.slice A2 (List.length l2) c2)] w fun e w' => e = .returned (.bool r) ∧ vok (.bool r) = true ∧ Sat w0 w' [] := by
    clear S
    intro w0 hw S
    rw [← hw] at rk0
    rw [← hw] at rk1
    rw [← hw] at rk2
    clear hw
    unfold RingsTwo.f at h
    refine calls_start (N := 125) [(.slice A0 (List.length l0) c0), (.slice A1 (List.length l1) c1), (.slice A2 (List.length l2) c2)] Try.func12 rfl rfl rfl (vok_c (vok_sl m0) (vok_c (vok_sl m1) (vok_c (vok_sl m2) rfl))) fun a fr => ?_
    refine wp_seq ?_
    refine wp_region_lit ?_
    refine wl_run orc_ok 1 rfl fr fun a fr => ?_
    refine wpList_nil ?_
    refine then_n ?_
    refine wp_seq ?_
    refine wp_seq ?_
    refine wp_region_lit ?_
    obtain ⟨r1, hr, h⟩ := bnd h
    refine wl_call fr rfl rfl rfl rfl en17 (alive.walk k  S hr) ?_
    rintro _ w ⟨rfl, hv, S⟩
    refine ⟨_, rfl, hv, fun a fr => ?_⟩
    refine wl_run orc_ok 2 rfl fr fun a fr => ?_
    refine wl_split 21 fr rfl h (fun fr h => ?_) (fun fr h => ?_)
    · refine wl_run orc_ok 16 rfl fr fun a fr => ?_
      refine wpList_nil ?_
      refine then_n ?_
      refine cw_t fr rfl ?_
      refine wp_seq ?_
      refine wp_region_lit ?_
      obtain ⟨r2, hr, h⟩ := bnd h
      refine wl_call fr rfl rfl rfl rfl en17 (alive.walk k  S hr) ?_
      rintro _ w ⟨rfl, hv, S⟩
      refine ⟨_, rfl, hv, fun a fr => ?_⟩
      refine wl_run orc_ok 1 rfl fr fun a fr => ?_
      refine wpList_nil ?_
      refine then_n ?_
      refine wp_ret ?_
      refine then_r ?_
      injection h with h
      subst h
      refine ret1 fr rfl rfl ?_
      exact ⟨rfl, fr.vok (d := 6) rfl, S.mask []⟩
    · refine wl_run orc_ok 5 rfl fr fun a fr => ?_
      refine wl_split 26 fr rfl h (fun fr h => ?_) (fun fr h => ?_)
      · refine wl_run orc_ok 11 rfl fr fun a fr => ?_
        refine wpList_nil ?_
        refine then_n ?_
        refine cw_t fr rfl ?_
        refine wp_seq ?_
        refine wp_region_lit ?_
        obtain ⟨r3, hr, h⟩ := bnd h
        refine wl_call fr rfl rfl rfl rfl en17 (alive.walk k  S hr) ?_
        rintro _ w ⟨rfl, hv, S⟩
        refine ⟨_, rfl, hv, fun a fr => ?_⟩
        refine wl_run orc_ok 1 rfl fr fun a fr => ?_
        refine wpList_nil ?_
        refine then_n ?_
        refine wp_ret ?_
        refine then_r ?_
        injection h with h
        subst h
        refine ret1 fr rfl rfl ?_
        exact ⟨rfl, fr.vok (d := 6) rfl, S.mask []⟩
      · refine wl_run orc_ok 7 rfl fr fun a fr => ?_
        refine wl_split 33 fr rfl h (fun fr h => ?_) (fun fr h => ?_)
        · refine wl_run orc_ok 4 rfl fr fun a fr => ?_
          refine wpList_nil ?_
          refine then_n ?_
          refine cw_t fr rfl ?_
          refine wp_seq ?_
          refine wp_region_lit ?_
          obtain ⟨r4, hr, h⟩ := bnd h
          refine wl_call fr rfl rfl rfl rfl en17 (alive.walk k  S hr) ?_
          rintro _ w ⟨rfl, hv, S⟩
          refine ⟨_, rfl, hv, fun a fr => ?_⟩
          refine wl_run orc_ok 1 rfl fr fun a fr => ?_
          refine wpList_nil ?_
          refine then_n ?_
          refine wp_ret ?_
          refine then_r ?_
          injection h with h
          subst h
          refine ret1 fr rfl rfl ?_
          exact ⟨rfl, fr.vok (d := 6) rfl, S.mask []⟩
        · refine wl_run orc_ok 4 rfl fr fun a fr => ?_
          refine wpList_nil ?_
          refine then_n ?_
          refine cw_if fr rfl h (fun h => ?_) (fun h => ?_)
          · refine wp_seq ?_
            refine wp_region_lit ?_
            obtain ⟨r5, hr, h⟩ := bnd h
            refine wl_call fr rfl rfl rfl rfl en17 (alive.walk k  S hr) ?_
            rintro _ w ⟨rfl, hv, S⟩
            refine ⟨_, rfl, hv, fun a fr => ?_⟩
            refine wl_run orc_ok 1 rfl fr fun a fr => ?_
            refine wpList_nil ?_
            refine then_n ?_
            refine wp_ret ?_
            refine then_r ?_
            injection h with h
            subst h
            refine ret1 fr rfl rfl ?_
            exact ⟨rfl, fr.vok (d := 6) rfl, S.mask []⟩
          · refine wp_skip ?_
            refine then_n ?_
            refine wp_seq ?_
            refine wp_seq ?_
            refine wp_region_lit ?_
            refine wl_run orc_ok 1 rfl fr fun a fr => ?_
            refine wpList_nil ?_
            refine then_n ?_
            refine wp_block ?_
            refine cw_loop (fun k1 a w => ∃ x6 : Int, Fr 125 a [(0, (.slice A0 (List.length l0) c0)), (1, (.slice A1 (List.length l1) c1)), (2, (.slice A2 (List.length l2) c2)), (7, (.int .i64 x6))] ∧ Sat w0 w [] ∧ (RingsTwo.l1 k1 l0 l1 l2 x6) = some r) k ⟨(0 : Int), fr.sub ⟨rfl, rfl, rfl, rfl, trivial⟩, S, h⟩ ?_ ?_
            · rintro a w ⟨x6, -, -, h⟩
              simp only [RingsTwo.l1] at h
              cases h
            · rintro k1 a w ⟨x6, fr, S, h⟩
              rw [RingsTwo.l1] at h
              refine wp_seq ?_
              refine wp_seq ?_
              refine wp_region_lit ?_
              refine wl_run orc_ok 4 rfl fr fun a fr => ?_
              refine wpList_nil ?_
              refine then_n ?_
              refine cw_if fr rfl h (fun h => ?_) (fun h => ?_)
              · refine wp_skip ?_
                refine then_n ?_
                refine wp_seq ?_
                refine wp_block ?_
                refine wp_seq ?_
                refine wp_region_lit ?_
                refine wl_run orc_ok 2 rfl fr fun a fr => ?_
                obtain ⟨hc, h⟩ := ifs h
                refine wl_ld orc_ok (Rk.at rk0 S) fr rfl rfl rfl rfl rfl rfl rfl rfl rfl rfl rfl rfl rfl rfl rfl rfl hc fun a fr => ?_
                refine wl_run orc_ok 2 rfl fr fun a fr => ?_
                refine wl_split 50 fr rfl h (fun fr h => ?_) (fun fr h => ?_)
                · refine wl_run orc_ok 6 rfl fr fun a fr => ?_
                  refine wpList_nil ?_
                  refine then_n ?_
                  refine cw_t fr rfl ?_
                  refine wp_seq ?_
                  refine wp_region_lit ?_
                  refine wl_run orc_ok 1 rfl fr fun a fr => ?_
                  refine wpList_nil ?_
                  refine then_n ?_
                  refine wp_ret ?_
                  refine blk_r ?_
                  refine then_r ?_
                  refine then_r ?_
                  refine blk_r ?_
                  refine then_r ?_
                  injection h with h
                  subst h
                  refine ret1 fr rfl rfl ?_
                  exact ⟨rfl, fr.vok (d := 6) rfl, S.mask []⟩
                · refine wl_run orc_ok 2 rfl fr fun a fr => ?_
                  obtain ⟨hc, h⟩ := ifs h
                  refine wl_ld orc_ok (Rk.at rk1 S) fr rfl rfl rfl rfl rfl rfl rfl rfl rfl rfl rfl rfl rfl rfl rfl rfl hc fun a fr => ?_
                  refine wl_run orc_ok 2 rfl fr fun a fr => ?_
                  refine wpList_nil ?_
                  refine then_n ?_
                  refine cw_if fr rfl h (fun h => ?_) (fun h => ?_)
                  · refine wp_seq ?_
                    refine wp_region_lit ?_
                    refine wl_run orc_ok 1 rfl fr fun a fr => ?_
                    refine wpList_nil ?_
                    refine then_n ?_
                    refine wp_ret ?_
                    refine blk_r ?_
                    refine then_r ?_
                    refine then_r ?_
                    refine blk_r ?_
                    refine then_r ?_
                    injection h with h
                    subst h
                    refine ret1 fr rfl rfl ?_
                    exact ⟨rfl, fr.vok (d := 6) rfl, S.mask []⟩
                  · refine wp_skip ?_
                    refine blk_n ?_
                    refine then_n ?_
                    refine wp_region_lit ?_
                    refine wl_run orc_ok 3 rfl fr fun a fr => ?_
                    refine wpList_nil ?_
                    exact ⟨(IntKind.wrap .i64 (x6 + (1 : Int))), fr.sub ⟨rfl, rfl, rfl, rfl, trivial⟩, S, h⟩
              · refine wp_exit ?_
                refine then_e ?_
                refine then_e ?_
                refine blk_y ?_
                refine then_n ?_
                refine wp_seq ?_
                refine wp_region_lit ?_
                refine wl_run orc_ok 1 rfl fr fun a fr => ?_
                obtain ⟨hc, h⟩ := ifs h
                have S : Sat w0 _ [ownA .u32 23 none 0 ([] : List Int)] := S.nilRow .u32 23
                have hy := (Rk.at rk0 S)
                refine wl_app lit22 fr rfl rfl rfl rfl rfl rfl rfl rfl hy hc S ?_
                intro w A8 c9 S
                intro a fr
                refine wl_run orc_ok 1 rfl fr fun a fr => ?_
                refine wpList_nil ?_
                refine then_n ?_
                refine wp_seq ?_
                refine wp_region_lit ?_
                refine wl_run orc_ok 1 rfl fr fun a fr => ?_
                obtain ⟨hc, h⟩ := ifs h
                have S : Sat w0 _ [ownA .u32 23 none 0 ([] : List Int), ownA .u32 23 A8 c9 (([] : List Int) ++ l0)] := S.nilRow .u32 23
                have hy := (Rk.at rk1 S)
                refine wl_app lit22 fr rfl rfl rfl rfl rfl rfl rfl rfl hy hc S ?_
                intro w A10 c11 S
                intro a fr
                refine wl_run orc_ok 1 rfl fr fun a fr => ?_
                refine wpList_nil ?_
                refine then_n ?_
                refine wp_seq ?_
                refine wp_region_lit ?_
                refine wl_run orc_ok 2 rfl fr fun a fr => ?_
                refine wpList_nil ?_
                refine then_n ?_
                refine wp_seq ?_
                refine wp_seq ?_
                refine wp_region_lit ?_
                refine wl_run orc_ok 1 rfl fr fun a fr => ?_
                refine wpList_nil ?_
                refine then_n ?_
                refine wp_block ?_
                have S : Sat w0 _ [ownA .u32 23 none 0 ([] : List Int), ownA .u32 23 A10 c11 (([] : List Int) ++ l1), ownA .u32 23 A8 c9 (([] : List Int) ++ l0)] := S.nilRow .u32 23
                have S : Sat w0 _ [ownA .u32 23 none 0 ([] : List Int), ownA .u32 23 none 0 ([] : List Int), ownA .u32 23 A10 c11 (([] : List Int) ++ l1), ownA .u32 23 A8 c9 (([] : List Int) ++ l0)] := S.nilRow .u32 23
                refine cw_loop (fun k2 a w => ∃ A12 : Option Addr, ∃ c13 : Nat, ∃ l14 : List Int, ∃ A15 : Option Addr, ∃ c16 : Nat, ∃ l17 : List Int, ∃ x18 : Int, Fr 125 a [(0, (.slice A0 (List.length l0) c0)), (1, (.slice A1 (List.length l1) c1)), (2, (.slice A2 (List.length l2) c2)), (8, (.slice A8 (List.length (([] : List Int) ++ l0)) c9)), (9, (.slice A10 (List.length (([] : List Int) ++ l1)) c11)), (10, (.slice A15 (List.length l17) c16)), (11, (.slice A12 (List.length l14) c13)), (12, (.int .i64 x18))] ∧ Sat w0 w [ownA .u32 23 A12 c13 l14, ownA .u32 23 A15 c16 l17, ownA .u32 23 A10 c11 (([] : List Int) ++ l1), ownA .u32 23 A8 c9 (([] : List Int) ++ l0)] ∧ (RingsTwo.l2 k2 l2 l0 l1 l14 l17 x18) = some r) k1 ⟨none, 0, ([] : List Int), none, 0, ([] : List Int), (0 : Int), fr.sub ⟨rfl, rfl, rfl, rfl, rfl, rfl, rfl, rfl, trivial⟩, S, h⟩ ?_ ?_
                · rintro a w ⟨A12, c13, l14, A15, c16, l17, x18, -, -, h⟩
                  simp only [RingsTwo.l2] at h
                  cases h
                · rintro k2 a w ⟨A12, c13, l14, A15, c16, l17, x18, fr, S, h⟩
                  rw [RingsTwo.l2] at h
                  refine wp_seq ?_
                  refine wp_seq ?_
                  refine wp_region_lit ?_
                  refine wl_run orc_ok 4 rfl fr fun a fr => ?_
                  refine wpList_nil ?_
                  refine then_n ?_
                  refine cw_if fr rfl h (fun h => ?_) (fun h => ?_)
                  · refine wp_skip ?_
                    refine then_n ?_
                    refine wp_seq ?_
                    refine wp_block ?_
                    refine wp_seq ?_
                    refine wp_region_lit ?_
                    refine wl_run orc_ok 3 rfl fr fun a fr => ?_
                    obtain ⟨hc, h⟩ := ifs h
                    refine wl_ld2 orc_ok (Rdr.Row.keep rk2 S.below) fr rfl rfl rfl rfl rfl rfl rfl rfl rfl rfl rfl rfl rfl rfl (fun _ => rfl) rfl rfl rfl rfl rfl rfl rfl rfl rfl hc fun a fr => ?_
                    refine wl_run orc_ok 1 rfl fr fun a fr => ?_
                    refine wl_lit (xs := [(bitv .or .u32 (List.getD (List.getD l2 (Int.toNat x18) []) (Int.toNat (0 : Int)) 0) (2147483648 : Int))]) orc_ok lit22 fr rfl rfl rfl rfl ⟨rfl, rfl, trivial⟩ rfl rfl S ?_
                    intro w A26 c27 S
                    intro a fr
                    obtain ⟨hc, h⟩ := ifs h
                    have S : Sat w0 _ [ownA .u32 23 A15 c16 l17, ownA .u32 23 A26 c27 [(bitv .or .u32 (List.getD (List.getD l2 (Int.toNat x18) []) (Int.toNat (0 : Int)) 0) (2147483648 : Int))], ownA .u32 23 A12 c13 l14, ownA .u32 23 A10 c11 (([] : List Int) ++ l1), ownA .u32 23 A8 c9 (([] : List Int) ++ l0)] := S.frontAt 2 rfl
                    have hy := (Sat.ownAt S 1 rfl)
                    refine wl_app lit22 fr rfl rfl rfl rfl rfl rfl rfl rfl hy hc S ?_
                    intro w A28 c29 S
                    have S : Sat w0 _ [ownA .u32 23 A28 c29 (l17 ++ [(bitv .or .u32 (List.getD (List.getD l2 (Int.toNat x18) []) (Int.toNat (0 : Int)) 0) (2147483648 : Int))]), ownA .u32 23 A12 c13 l14, ownA .u32 23 A10 c11 (([] : List Int) ++ l1), ownA .u32 23 A8 c9 (([] : List Int) ++ l0)] := S.mask [true, false, true, true, true]
                    intro a fr
                    refine wl_run orc_ok 1 rfl fr fun a fr => ?_
                    refine wpList_nil ?_
                    refine then_n ?_
                    refine wp_region_lit ?_
                    refine wl_run orc_ok 3 rfl fr fun a fr => ?_
                    obtain ⟨hc, h⟩ := ifs h
                    refine wl_ld2 orc_ok (Rdr.Row.keep rk2 S.below) fr rfl rfl rfl rfl rfl rfl rfl rfl rfl rfl rfl rfl rfl rfl (fun _ => rfl) rfl rfl rfl rfl rfl rfl rfl rfl rfl hc fun a fr => ?_
                    refine wl_run orc_ok 1 rfl fr fun a fr => ?_
                    refine wl_lit (xs := [(bitv .or .u32 (List.getD (List.getD l2 (Int.toNat x18) []) (Int.toNat (1 : Int)) 0) (2147483648 : Int))]) orc_ok lit22 fr rfl rfl rfl rfl ⟨rfl, rfl, trivial⟩ rfl rfl S ?_
                    intro w A30 c31 S
                    intro a fr
                    obtain ⟨hc, h⟩ := ifs h
                    have S : Sat w0 _ [ownA .u32 23 A12 c13 l14, ownA .u32 23 A30 c31 [(bitv .or .u32 (List.getD (List.getD l2 (Int.toNat x18) []) (Int.toNat (1 : Int)) 0) (2147483648 : Int))], ownA .u32 23 A28 c29 (l17 ++ [(bitv .or .u32 (List.getD (List.getD l2 (Int.toNat x18) []) (Int.toNat (0 : Int)) 0) (2147483648 : Int))]), ownA .u32 23 A10 c11 (([] : List Int) ++ l1), ownA .u32 23 A8 c9 (([] : List Int) ++ l0)] := S.frontAt 2 rfl
                    have hy := (Sat.ownAt S 1 rfl)
                    refine wl_app lit22 fr rfl rfl rfl rfl rfl rfl rfl rfl hy hc S ?_
                    intro w A32 c33 S
                    have S : Sat w0 _ [ownA .u32 23 A32 c33 (l14 ++ [(bitv .or .u32 (List.getD (List.getD l2 (Int.toNat x18) []) (Int.toNat (1 : Int)) 0) (2147483648 : Int))]), ownA .u32 23 A28 c29 (l17 ++ [(bitv .or .u32 (List.getD (List.getD l2 (Int.toNat x18) []) (Int.toNat (0 : Int)) 0) (2147483648 : Int))]), ownA .u32 23 A10 c11 (([] : List Int) ++ l1), ownA .u32 23 A8 c9 (([] : List Int) ++ l0)] := S.mask [true, false, true, true, true]
                    intro a fr
                    refine wl_run orc_ok 1 rfl fr fun a fr => ?_
                    refine wpList_nil ?_
                    refine blk_n ?_
                    refine then_n ?_
                    refine wp_region_lit ?_
                    refine wl_run orc_ok 3 rfl fr fun a fr => ?_
                    refine wpList_nil ?_
                    exact ⟨A32, c33, (l14 ++ [(bitv .or .u32 (List.getD (List.getD l2 (Int.toNat x18) []) (Int.toNat (1 : Int)) 0) (2147483648 : Int))]), A28, c29, (l17 ++ [(bitv .or .u32 (List.getD (List.getD l2 (Int.toNat x18) []) (Int.toNat (0 : Int)) 0) (2147483648 : Int))]), (IntKind.wrap .i64 (x18 + (1 : Int))), fr.sub ⟨rfl, rfl, rfl, rfl, rfl, rfl, rfl, rfl, trivial⟩, S, h⟩
                  · refine wp_exit ?_
                    refine then_e ?_
                    refine then_e ?_
                    refine blk_y ?_
                    refine then_n ?_
                    refine wp_seq ?_
                    refine wp_region_lit ?_
                    refine wl_run orc_ok 2 rfl fr fun a fr => ?_
                    obtain ⟨hc, h⟩ := ifs h
                    obtain ⟨o34, hx, h⟩ := lt_h h
                    have H := order_call (A := A0) (c := c0) (l := l0) (A1 := A1) (c1 := c1) (l1 := l1) (Rk.at rk0 S) (Rk.at rk1 S) (fr.slice (d := 86) rfl) (fr.slice (d := 87) rfl) hc S
                    rw [hx] at H
                    refine wl_call fr rfl rfl rfl rfl en18 H ?_
                    clear H
                    rintro _ w ⟨A35, c36, rfl, hv, S⟩
                    refine ⟨_, rfl, hv, fun a fr => ?_⟩
                    refine wl_run orc_ok 5 rfl fr fun a fr => ?_
                    refine wpList_nil ?_
                    refine then_n ?_
                    refine wp_seq ?_
                    refine wp_region_lit ?_
                    refine wl_run orc_ok 2 rfl fr fun a fr => ?_
                    obtain ⟨hc, h⟩ := ifs h
                    obtain ⟨o37, hx, h⟩ := lt_h h
                    have H := order_call (A := A15) (c := c16) (l := l17) (A1 := A12) (c1 := c13) (l1 := l14) (Sat.ownAt S 2 rfl) (Sat.ownAt S 1 rfl) (fr.slice (d := 92) rfl) (fr.slice (d := 93) rfl) hc S
                    rw [hx] at H
                    refine wl_call fr rfl rfl rfl rfl en18 H ?_
                    clear H
                    rintro _ w ⟨A38, c39, rfl, hv, S⟩
                    refine ⟨_, rfl, hv, fun a fr => ?_⟩
                    refine wl_run orc_ok 5 rfl fr fun a fr => ?_
                    refine wpList_nil ?_
                    refine then_n ?_
                    refine wp_seq ?_
                    refine wp_region_lit ?_
                    refine wl_run orc_ok 2 rfl fr fun a fr => ?_
                    obtain ⟨hc, h⟩ := ifs h
                    have S : Sat w0 _ [ownA .u32 23 A8 c9 (([] : List Int) ++ l0), ownA .u32 23 A38 c39 (Option.getD o37 []), ownA .u32 23 A35 c36 (Option.getD o34 []), ownA .u32 23 A12 c13 l14, ownA .u32 23 A15 c16 l17, ownA .u32 23 A10 c11 (([] : List Int) ++ l1)] := S.frontAt 5 rfl
                    have hy := (Sat.ownAt S 4 rfl)
                    refine wl_app lit22 fr rfl rfl rfl rfl rfl rfl rfl rfl hy hc S ?_
                    intro w A40 c41 S
                    intro a fr
                    refine wl_run orc_ok 2 rfl fr fun a fr => ?_
                    obtain ⟨hc, h⟩ := ifs h
                    have S : Sat w0 _ [ownA .u32 23 A10 c11 (([] : List Int) ++ l1), ownA .u32 23 A40 c41 ((([] : List Int) ++ l0) ++ l17), ownA .u32 23 A38 c39 (Option.getD o37 []), ownA .u32 23 A35 c36 (Option.getD o34 []), ownA .u32 23 A12 c13 l14, ownA .u32 23 A15 c16 l17] := S.frontAt 5 rfl
                    have hy := (Sat.ownAt S 4 rfl)
                    refine wl_app lit22 fr rfl rfl rfl rfl rfl rfl rfl rfl hy hc S ?_
                    intro w A42 c43 S
                    intro a fr
                    obtain ⟨hc, h⟩ := ifs h
                    obtain ⟨o44, hx, h⟩ := lt_h h
                    have H := order_call (A := A40) (c := c41) (l := ((([] : List Int) ++ l0) ++ l17)) (A1 := A42) (c1 := c43) (l1 := ((([] : List Int) ++ l1) ++ l14)) (Sat.ownAt S 1 rfl) (Sat.ownAt S 0 rfl) (fr.slice (d := 100) rfl) (fr.slice (d := 103) rfl) hc S
                    rw [hx] at H
                    refine wl_call fr rfl rfl rfl rfl en18 H ?_
                    clear H
                    rintro _ w ⟨A45, c46, rfl, hv, S⟩
                    refine ⟨_, rfl, hv, fun a fr => ?_⟩
                    refine wl_run orc_ok 5 rfl fr fun a fr => ?_
                    refine wpList_nil ?_
                    refine then_n ?_
                    refine wp_seq ?_
                    refine wp_region_lit ?_
                    refine wl_run orc_ok 3 rfl fr fun a fr => ?_
                    refine wl_split 109 fr rfl h (fun fr h => ?_) (fun fr h => ?_)
                    · refine wl_run orc_ok 4 rfl fr fun a fr => ?_
                      refine wl_split 113 fr rfl h (fun fr h => ?_) (fun fr h => ?_)
                      · refine wl_run orc_ok 3 rfl fr fun a fr => ?_
                        refine wl_split 116 fr rfl h (fun fr h => ?_) (fun fr h => ?_)
                        · refine wl_run orc_ok 9 rfl fr fun a fr => ?_
                          refine wpList_nil ?_
                          refine then_n ?_
                          refine wp_ret ?_
                          injection h with h
                          subst h
                          refine ret1 fr rfl rfl ?_
                          exact ⟨rfl, fr.vok (d := 6) rfl, S.mask [false, false, false, false, false, false, false]⟩
                        · refine wl_run orc_ok 2 rfl fr fun a fr => ?_
                          obtain ⟨hc, h⟩ := ifs h
                          refine wl_call fr rfl rfl rfl rfl en13 (twin_call (Sat.ownAt S 4 rfl) hc S) ?_
                          rintro _ w ⟨A49, c50, rfl, hv, S⟩
                          refine ⟨_, rfl, hv, fun a fr => ?_⟩
                          refine wl_run orc_ok 1 rfl fr fun a fr => ?_
                          obtain ⟨hc, h⟩ := ifs h
                          have S := S.twnOwn
                          have hy := (Sat.ownAt S 4 rfl)
                          refine wl_app lit22 fr rfl rfl rfl rfl rfl rfl rfl rfl hy hc S ?_
                          intro w A49 c50 S
                          intro a fr
                          obtain ⟨r51, hr, h⟩ := bnd h
                          refine wl_call fr rfl rfl rfl rfl en20 (SameIds.walk k2 A45 c46 (Option.getD o44 []) A49 c50 ((Option.getD o34 []) ++ (Option.getD o37 [])) (Sat.ownAt S 1 rfl) (fr.slice (d := 117) rfl) (Sat.ownAt S 0 rfl) (fr.slice (d := 121) rfl) S hr) ?_
                          rintro _ w ⟨rfl, hv, S⟩
                          refine ⟨_, rfl, hv, fun a fr => ?_⟩
                          refine wl_run orc_ok 3 rfl fr fun a fr => ?_
                          refine wpList_nil ?_
                          refine then_n ?_
                          refine wp_ret ?_
                          injection h with h
                          subst h
                          refine ret1 fr rfl rfl ?_
                          exact ⟨rfl, fr.vok (d := 6) rfl, S.mask [false, false, false, false, false, false, false, false]⟩
                      · cases h
                    · refine wl_run orc_ok 4 rfl fr fun a fr => ?_
                      refine wl_split 113 fr rfl h (fun fr h => ?_) (fun fr h => ?_)
                      · refine wl_run orc_ok 3 rfl fr fun a fr => ?_
                        refine wl_split 116 fr rfl h (fun fr h => ?_) (fun fr h => ?_)
                        · refine wl_run orc_ok 9 rfl fr fun a fr => ?_
                          refine wpList_nil ?_
                          refine then_n ?_
                          refine wp_ret ?_
                          injection h with h
                          subst h
                          refine ret1 fr rfl rfl ?_
                          exact ⟨rfl, fr.vok (d := 6) rfl, S.mask [false, false, false, false, false, false, false]⟩
                        · refine wl_run orc_ok 2 rfl fr fun a fr => ?_
                          obtain ⟨hc, h⟩ := ifs h
                          refine wl_call fr rfl rfl rfl rfl en13 (twin_call (Sat.ownAt S 4 rfl) hc S) ?_
                          rintro _ w ⟨A54, c55, rfl, hv, S⟩
                          refine ⟨_, rfl, hv, fun a fr => ?_⟩
                          refine wl_run orc_ok 1 rfl fr fun a fr => ?_
                          obtain ⟨hc, h⟩ := ifs h
                          have S := S.twnOwn
                          have hy := (Sat.ownAt S 4 rfl)
                          refine wl_app lit22 fr rfl rfl rfl rfl rfl rfl rfl rfl hy hc S ?_
                          intro w A54 c55 S
                          intro a fr
                          obtain ⟨r56, hr, h⟩ := bnd h
                          refine wl_call fr rfl rfl rfl rfl en20 (SameIds.walk k2 A45 c46 (Option.getD o44 []) A54 c55 ((Option.getD o34 []) ++ (Option.getD o37 [])) (Sat.ownAt S 1 rfl) (fr.slice (d := 117) rfl) (Sat.ownAt S 0 rfl) (fr.slice (d := 121) rfl) S hr) ?_
                          rintro _ w ⟨rfl, hv, S⟩
                          refine ⟨_, rfl, hv, fun a fr => ?_⟩
                          refine wl_run orc_ok 3 rfl fr fun a fr => ?_
                          refine wpList_nil ?_
                          refine then_n ?_
                          refine wp_ret ?_
                          injection h with h
                          subst h
                          refine ret1 fr rfl rfl ?_
                          exact ⟨rfl, fr.vok (d := 6) rfl, S.mask [false, false, false, false, false, false, false, false]⟩
                      · cases h
  exact (key w rfl (Sat.start w)).mono fun e w' ⟨h1, h2, h3⟩ => ⟨h1, h2, S.new h3.below⟩
end Go.Proofs.Ytjdholnlbhkmeaa.Pl
