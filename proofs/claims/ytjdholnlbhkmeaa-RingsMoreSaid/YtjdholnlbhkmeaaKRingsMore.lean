/- Walks over the program's functions, printed by a program of this work (wip/tools/shal.py): each call does what the plain function says. -/
import Derived.Test.YtjdholnlbhkmeaaProg
import Derived.Test.YtjdholnlbhkmeaaTx
import Derived.Test.YtjdholnlbhkmeaaPool
import Derived.Test.YtjdholnlbhkmeaaSo
import Derived.Test.YtjdholnlbhkmeaaDRingsMore
namespace Go.Proofs.Ytjdholnlbhkmeaa.Pl
open Go Go.RowKit Sx Base Own

def orc : Orc := ⟨[(4, .bool), (22, .slice 23), (23, .int .u32), (24, .array 2 23)],
  [(23, 1)]⟩
theorem orc_ok : orc.Ok Try.prog := ⟨⟨Try.underlying4, Try.underlying22, Try.underlying23, Try.underlying24, trivial⟩, ⟨by kernel_rfl, trivial⟩⟩
theorem en13 : Enters Try.prog 13 := fun _ _ => by kernel_rfl
theorem en14 : Enters Try.prog 14 := fun _ _ => by kernel_rfl
theorem en17 : Enters Try.prog 17 := fun _ _ => by kernel_rfl
theorem en18 : Enters Try.prog 18 := fun _ _ => by kernel_rfl
theorem en20 : Enters Try.prog 20 := fun _ _ => by kernel_rfl
theorem en23 : Enters Try.prog 23 := fun _ _ => by kernel_rfl
theorem lit22 : RowTy Try.prog 22 23 .u32 := ⟨Try.underlying22, 4, by decide, by kernel_rfl⟩
set_option maxRecDepth 100000 in
set_option maxHeartbeats 4000000 in
theorem SameIds.walk (k : Nat) (A0 : Option Addr) (c0 : Nat) (l0 : List Int) (A1 : Option Addr) (c1 : Nat) (l1 : List Int) {w0 w : World} {R : List Asn} (rk0 : Rk .u32 w A0 l0) (m0 : l0.length ≤ c0 ∧ c0 ≤ maxLen) (rk1 : Rk .u32 w A1 l1) (m1 : l1.length ≤ c1 ∧ c1 ≤ maxLen) (S : Sat w0 w R) {r : Bool} (h : SameIds.f k l0 l1 = some r) :
    Calls Try.prog 20 #[(.slice A0 (List.length l0) c0), (.slice A1 (List.length l1) c1)] w fun e w' => e = .returned (.bool r) ∧ vok (.bool r) = true ∧ Sat w0 w' R := by
  have key : ∀ w0 : World, w0 = w → Sat w0 w [] → Calls Try.prog 20 #[(.slice A0 (List.length l0) c0), (.slice A1 (List.length l1) c1)] w fun e w' => e = .returned (.bool r) ∧ vok (.bool r) = true ∧ Sat w0 w' [] := by
    clear S
    intro w0 hw S
    rw [← hw] at rk0
    rw [← hw] at rk1
    clear hw
    unfold SameIds.f at h
    refine calls_start (N := 26) [(.slice A0 (List.length l0) c0), (.slice A1 (List.length l1) c1)] Try.func20 rfl rfl rfl (vok_c (vok_sl m0) (vok_c (vok_sl m1) rfl)) fun a fr => ?_
    refine wp_seq ?_
    refine wp_region_lit ?_
    refine wl_run orc_ok 1 rfl fr fun a fr => ?_
    refine wpList_nil ?_
    refine then_n ?_
    refine wp_seq ?_
    refine wp_seq ?_
    refine wp_region_lit ?_
    refine wl_run orc_ok 5 rfl fr fun a fr => ?_
    refine wpList_nil ?_
    refine then_n ?_
    refine cw_if fr rfl h (fun h => ?_) (fun h => ?_)
    · refine wp_seq ?_
      refine wp_region_lit ?_
      refine wl_run orc_ok 1 rfl fr fun a fr => ?_
      refine wpList_nil ?_
      refine then_n ?_
      refine wp_ret ?_
      refine then_r ?_
      injection h with h
      subst h
      refine ret1 fr rfl rfl ?_
      exact ⟨rfl, fr.vok (d := 4) rfl, S.mask []⟩
    · refine wp_skip ?_
      refine then_n ?_
      refine wp_seq ?_
      refine wp_seq ?_
      refine wp_region_lit ?_
      refine wl_run orc_ok 1 rfl fr fun a fr => ?_
      refine wpList_nil ?_
      refine then_n ?_
      refine wp_block ?_
      refine cw_loop (fun k1 a w => ∃ x1 : Int, Fr 26 a [(0, (.slice A0 (List.length l0) c0)), (1, (.slice A1 (List.length l1) c1)), (5, (.int .i64 x1))] ∧ Sat w0 w [] ∧ (SameIds.l1 k1 l0 l1 x1) = some r) k ⟨(0 : Int), fr.sub ⟨rfl, rfl, rfl, trivial⟩, S, h⟩ ?_ ?_
      · rintro a w ⟨x1, -, -, h⟩
        simp only [SameIds.l1] at h
        cases h
      · rintro k1 a w ⟨x1, fr, S, h⟩
        rw [SameIds.l1] at h
        refine wp_seq ?_
        refine wp_seq ?_
        refine wp_region_lit ?_
        refine wl_run orc_ok 4 rfl fr fun a fr => ?_
        refine wpList_nil ?_
        refine then_n ?_
        refine cw_if fr rfl h (fun h => ?_) (fun h => ?_)
        · refine wp_skip ?_
          refine then_n ?_
          refine wp_seq ?_
          refine wp_block ?_
          refine wp_seq ?_
          refine wp_region_sl [.one (0, true, some 17), .one (1, true, some 18), .one (2, true, some 19), .one (3, true, some 20), .one (4, true, some 21), .one (5, true, some 22), .one (6, true, some 23), .one (7, true, some 24), .one (8, true, some 25)]
            [.one ⟨true, some 17, (Go.Op.move (Go.Operand.tmp 0)), 22, none⟩,
    .one ⟨true, some 18, (Go.Op.move (Go.Operand.tmp 5)), 3, none⟩,
    .one ⟨true, some 19, (Go.Op.indexAddr 22 (Go.Operand.tmp 17) (Go.Operand.tmp 18)), 0, none⟩,
    .one ⟨true, some 20, (Go.Op.load 23 (Go.Operand.tmp 19)), 23, none⟩,
    .one ⟨true, some 21, (Go.Op.move (Go.Operand.tmp 1)), 22, none⟩,
    .one ⟨true, some 22, (Go.Op.move (Go.Operand.tmp 5)), 3, none⟩,
    .one ⟨true, some 23, (Go.Op.indexAddr 22 (Go.Operand.tmp 21) (Go.Operand.tmp 22)), 0, none⟩,
    .one ⟨true, some 24, (Go.Op.load 23 (Go.Operand.tmp 23)), 23, none⟩,
    .one ⟨true, some 25, (Go.Op.binOp Go.BinOp.neq 23 (Go.Operand.tmp 20) (Go.Operand.tmp 24) 23), 4, none⟩]
            (fun w => Sat w0 w []) rfl (by kernel_rfl) (by kernel_rfl) (S.drew.mask []) ?_
          have S := S.drew
          refine sl_run orc_ok 2 rfl fr fun a fr => ?_
          obtain ⟨hc, h⟩ := ifs h
          refine sl_ld orc_ok (fun _ S => Rk.at rk0 S) fr rfl rfl rfl rfl rfl rfl rfl rfl rfl rfl rfl rfl rfl rfl rfl rfl rfl rfl hc (Sat.mask S []) fun a fr => ?_
          refine sl_run orc_ok 2 rfl fr fun a fr => ?_
          obtain ⟨hc, h⟩ := ifs h
          refine sl_ld orc_ok (fun _ S => Rk.at rk1 S) fr rfl rfl rfl rfl rfl rfl rfl rfl rfl rfl rfl rfl rfl rfl rfl rfl rfl rfl hc (Sat.mask S []) fun a fr => ?_
          refine sl_run orc_ok 1 rfl fr fun a fr => ?_
          refine sl_end ?_
          refine then_n ?_
          refine cw_if fr rfl h (fun h => ?_) (fun h => ?_)
          · refine wp_seq ?_
            refine wp_region_lit ?_
            refine wl_run orc_ok 1 rfl fr fun a fr => ?_
            refine wpList_nil ?_
            refine then_n ?_
            refine wp_ret ?_
            refine blk_r ?_
            refine then_r ?_
            refine then_r ?_
            refine blk_r ?_
            refine then_r ?_
            injection h with h
            subst h
            refine ret1 fr rfl rfl ?_
            exact ⟨rfl, fr.vok (d := 4) rfl, S.mask []⟩
          · refine wp_skip ?_
            refine blk_n ?_
            refine then_n ?_
            refine wp_region_lit ?_
            refine wl_run orc_ok 3 rfl fr fun a fr => ?_
            refine wpList_nil ?_
            exact ⟨(IntKind.wrap .i64 (x1 + (1 : Int))), fr.sub ⟨rfl, rfl, rfl, trivial⟩, S, h⟩
        · refine wp_exit ?_
          refine then_e ?_
          refine then_e ?_
          refine blk_y ?_
          refine then_n ?_
          refine wp_seq ?_
          refine wp_region_lit ?_
          refine wl_run orc_ok 1 rfl fr fun a fr => ?_
          refine wpList_nil ?_
          refine then_n ?_
          refine wp_ret ?_
          injection h with h
          subst h
          refine ret1 fr rfl rfl ?_
          exact ⟨rfl, fr.vok (d := 4) rfl, S.mask []⟩
  exact (key w rfl (Sat.start w)).mono fun e w' ⟨h1, h2, h3⟩ => ⟨h1, h2, S.new h3.below⟩
set_option maxRecDepth 100000 in
set_option maxHeartbeats 4000000 in
theorem alive.walk (k : Nat)  {w0 w : World} {R : List Asn}  (S : Sat w0 w R) {r : Bool} (h : alive.f k = some r) :
    Calls Try.prog 17 #[] w fun e w' => e = .returned (.bool r) ∧ vok (.bool r) = true ∧ Sat w0 w' R := by
  have key : ∀ w0 : World, w0 = w → Sat w0 w [] → Calls Try.prog 17 #[] w fun e w' => e = .returned (.bool r) ∧ vok (.bool r) = true ∧ Sat w0 w' [] := by
    clear S
    intro w0 hw S
    clear hw
    unfold alive.f at h
    refine calls_start (N := 108) [] Try.func17 rfl rfl rfl rfl fun a fr => ?_
    refine wp_seq ?_
    refine wp_region_lit ?_
    refine wl_run orc_ok 1 rfl fr fun a fr => ?_
    refine wpList_nil ?_
    refine then_n ?_
    refine wp_seq ?_
    refine wp_region_lit ?_
    refine wl_lit (xs := [(1 : Int), (2 : Int)]) orc_ok lit22 fr rfl rfl rfl rfl ⟨rfl, rfl, rfl, rfl, trivial⟩ rfl rfl S ?_
    intro w A1 c2 S
    intro a fr
    have hv := (fr.vok (d := 18) rfl)
    refine wl_call fr rfl rfl rfl rfl en23 (ids_call hv) ?_
    rintro _ w ⟨rfl, hw⟩
    subst hw
    refine ⟨_, rfl, hv, fun a fr => ?_⟩
    refine wl_lit (xs := [(2 : Int), (3 : Int)]) orc_ok lit22 fr rfl rfl rfl rfl ⟨rfl, rfl, rfl, rfl, trivial⟩ rfl rfl S ?_
    intro w A3 c4 S
    intro a fr
    have hv := (fr.vok (d := 20) rfl)
    refine wl_call fr rfl rfl rfl rfl en23 (ids_call hv) ?_
    rintro _ w ⟨rfl, hw⟩
    subst hw
    refine ⟨_, rfl, hv, fun a fr => ?_⟩
    obtain ⟨hc, h⟩ := ifs h
    obtain ⟨y5, hx, h⟩ := lt_h h
    obtain ⟨y6, hx2, h⟩ := lt_h h
    have H := closes_call (A := A1) (c := c2) (l := [(1 : Int), (2 : Int)]) (A1 := A3) (c1 := c4) (l1 := [(2 : Int), (3 : Int)]) (who := (3 : Int)) (whom := (1 : Int)) (Sat.ownAt S 1 rfl) (Sat.ownAt S 0 rfl) (fr.slice (d := 19) rfl) (fr.slice (d := 21) rfl) rfl rfl hc S
    have hv := vok_cl (if List.length [(1 : Int), (2 : Int)] = List.length [(2 : Int), (3 : Int)] then comesB (List.zip [(1 : Int), (2 : Int)] [(2 : Int), (3 : Int)]) (1 : Int) (3 : Int) else false) (List.length [(1 : Int), (2 : Int)] = List.length [(2 : Int), (3 : Int)])
    rw [hx, hx2] at hv H
    refine wl_call fr rfl rfl rfl rfl en14 H ?_
    clear H
    rintro _ w ⟨rfl, S⟩
    refine ⟨_, rfl, hv, fun a fr => ?_⟩
    refine wl_run orc_ok 5 rfl fr fun a fr => ?_
    refine wpList_nil ?_
    refine then_n ?_
    refine wp_seq ?_
    refine wp_region_lit ?_
    refine wl_lit (xs := [(1 : Int), (2 : Int)]) orc_ok lit22 fr rfl rfl rfl rfl ⟨rfl, rfl, rfl, rfl, trivial⟩ rfl rfl S ?_
    intro w A7 c8 S
    intro a fr
    have hv := (fr.vok (d := 26) rfl)
    refine wl_call fr rfl rfl rfl rfl en23 (ids_call hv) ?_
    rintro _ w ⟨rfl, hw⟩
    subst hw
    refine ⟨_, rfl, hv, fun a fr => ?_⟩
    refine wl_lit (xs := [(2 : Int), (3 : Int)]) orc_ok lit22 fr rfl rfl rfl rfl ⟨rfl, rfl, rfl, rfl, trivial⟩ rfl rfl S ?_
    intro w A9 c10 S
    intro a fr
    have hv := (fr.vok (d := 28) rfl)
    refine wl_call fr rfl rfl rfl rfl en23 (ids_call hv) ?_
    rintro _ w ⟨rfl, hw⟩
    subst hw
    refine ⟨_, rfl, hv, fun a fr => ?_⟩
    obtain ⟨hc, h⟩ := ifs h
    obtain ⟨y11, hx, h⟩ := lt_h h
    obtain ⟨y12, hx2, h⟩ := lt_h h
    have H := closes_call (A := A7) (c := c8) (l := [(1 : Int), (2 : Int)]) (A1 := A9) (c1 := c10) (l1 := [(2 : Int), (3 : Int)]) (who := (1 : Int)) (whom := (3 : Int)) (Sat.ownAt S 1 rfl) (Sat.ownAt S 0 rfl) (fr.slice (d := 27) rfl) (fr.slice (d := 29) rfl) rfl rfl hc S
    have hv := vok_cl (if List.length [(1 : Int), (2 : Int)] = List.length [(2 : Int), (3 : Int)] then comesB (List.zip [(1 : Int), (2 : Int)] [(2 : Int), (3 : Int)]) (3 : Int) (1 : Int) else false) (List.length [(1 : Int), (2 : Int)] = List.length [(2 : Int), (3 : Int)])
    rw [hx, hx2] at hv H
    refine wl_call fr rfl rfl rfl rfl en14 H ?_
    clear H
    rintro _ w ⟨rfl, S⟩
    refine ⟨_, rfl, hv, fun a fr => ?_⟩
    refine wl_run orc_ok 5 rfl fr fun a fr => ?_
    refine wpList_nil ?_
    refine then_n ?_
    refine wp_seq ?_
    refine wp_region_lit ?_
    obtain ⟨hc, h⟩ := ifs h
    obtain ⟨y13, hx, h⟩ := lt_h h
    obtain ⟨y14, hx2, h⟩ := lt_h h
    have H := closes_call (A := none) (c := 0) (l := ([] : List Int)) (A1 := none) (c1 := 0) (l1 := ([] : List Int)) (who := (5 : Int)) (whom := (5 : Int)) Rk.nil Rk.nil ⟨Nat.le_refl _, Nat.zero_le _⟩ ⟨Nat.le_refl _, Nat.zero_le _⟩ rfl rfl hc S
    have hv := vok_cl (if List.length ([] : List Int) = List.length ([] : List Int) then comesB (List.zip ([] : List Int) ([] : List Int)) (5 : Int) (5 : Int) else false) (List.length ([] : List Int) = List.length ([] : List Int))
    rw [hx, hx2] at hv H
    refine wl_call fr rfl rfl rfl rfl en14 H ?_
    clear H
    rintro _ w ⟨rfl, S⟩
    refine ⟨_, rfl, hv, fun a fr => ?_⟩
    refine wl_run orc_ok 5 rfl fr fun a fr => ?_
    refine wpList_nil ?_
    refine then_n ?_
    refine wp_seq ?_
    refine wp_region_lit ?_
    refine wl_lit (xs := [(1 : Int)]) orc_ok lit22 fr rfl rfl rfl rfl ⟨rfl, rfl, trivial⟩ rfl rfl S ?_
    intro w A15 c16 S
    intro a fr
    have hv := (fr.vok (d := 38) rfl)
    refine wl_call fr rfl rfl rfl rfl en23 (ids_call hv) ?_
    rintro _ w ⟨rfl, hw⟩
    subst hw
    refine ⟨_, rfl, hv, fun a fr => ?_⟩
    obtain ⟨hc, h⟩ := ifs h
    obtain ⟨y17, hx, h⟩ := lt_h h
    obtain ⟨y18, hx2, h⟩ := lt_h h
    have H := closes_call (A := A15) (c := c16) (l := [(1 : Int)]) (A1 := none) (c1 := 0) (l1 := ([] : List Int)) (who := (1 : Int)) (whom := (2 : Int)) (Sat.ownAt S 0 rfl) Rk.nil (fr.slice (d := 39) rfl) ⟨Nat.le_refl _, Nat.zero_le _⟩ rfl rfl hc S
    have hv := vok_cl (if List.length [(1 : Int)] = List.length ([] : List Int) then comesB (List.zip [(1 : Int)] ([] : List Int)) (2 : Int) (1 : Int) else false) (List.length [(1 : Int)] = List.length ([] : List Int))
    rw [hx, hx2] at hv H
    refine wl_call fr rfl rfl rfl rfl en14 H ?_
    clear H
    rintro _ w ⟨rfl, S⟩
    refine ⟨_, rfl, hv, fun a fr => ?_⟩
    refine wl_run orc_ok 5 rfl fr fun a fr => ?_
    refine wpList_nil ?_
    refine then_n ?_
    refine wp_seq ?_
    refine wp_region_lit ?_
    refine wl_lit (xs := [(1 : Int), (2 : Int), (5 : Int)]) orc_ok lit22 fr rfl rfl rfl rfl ⟨rfl, rfl, rfl, rfl, rfl, rfl, trivial⟩ rfl rfl S ?_
    intro w A19 c20 S
    intro a fr
    have hv := (fr.vok (d := 44) rfl)
    refine wl_call fr rfl rfl rfl rfl en23 (ids_call hv) ?_
    rintro _ w ⟨rfl, hw⟩
    subst hw
    refine ⟨_, rfl, hv, fun a fr => ?_⟩
    refine wl_lit (xs := [(2 : Int), (3 : Int), (3 : Int)]) orc_ok lit22 fr rfl rfl rfl rfl ⟨rfl, rfl, rfl, rfl, rfl, rfl, trivial⟩ rfl rfl S ?_
    intro w A21 c22 S
    intro a fr
    have hv := (fr.vok (d := 46) rfl)
    refine wl_call fr rfl rfl rfl rfl en23 (ids_call hv) ?_
    rintro _ w ⟨rfl, hw⟩
    subst hw
    refine ⟨_, rfl, hv, fun a fr => ?_⟩
    obtain ⟨hc, h⟩ := ifs h
    obtain ⟨o23, hx, h⟩ := lt_h h
    have H := order_call (A := A19) (c := c20) (l := [(1 : Int), (2 : Int), (5 : Int)]) (A1 := A21) (c1 := c22) (l1 := [(2 : Int), (3 : Int), (3 : Int)]) (Sat.ownAt S 1 rfl) (Sat.ownAt S 0 rfl) (fr.slice (d := 45) rfl) (fr.slice (d := 47) rfl) hc S
    rw [hx] at H
    refine wl_call fr rfl rfl rfl rfl en18 H ?_
    clear H
    rintro _ w ⟨A24, c25, rfl, hv, S⟩
    refine ⟨_, rfl, hv, fun a fr => ?_⟩
    refine wl_run orc_ok 5 rfl fr fun a fr => ?_
    refine wpList_nil ?_
    refine then_n ?_
    refine wp_seq ?_
    refine wp_region_lit ?_
    refine wl_lit (xs := [(1 : Int), (2 : Int)]) orc_ok lit22 fr rfl rfl rfl rfl ⟨rfl, rfl, rfl, rfl, trivial⟩ rfl rfl S ?_
    intro w A26 c27 S
    intro a fr
    have hv := (fr.vok (d := 52) rfl)
    refine wl_call fr rfl rfl rfl rfl en23 (ids_call hv) ?_
    rintro _ w ⟨rfl, hw⟩
    subst hw
    refine ⟨_, rfl, hv, fun a fr => ?_⟩
    refine wl_lit (xs := [(2 : Int), (1 : Int)]) orc_ok lit22 fr rfl rfl rfl rfl ⟨rfl, rfl, rfl, rfl, trivial⟩ rfl rfl S ?_
    intro w A28 c29 S
    intro a fr
    have hv := (fr.vok (d := 54) rfl)
    refine wl_call fr rfl rfl rfl rfl en23 (ids_call hv) ?_
    rintro _ w ⟨rfl, hw⟩
    subst hw
    refine ⟨_, rfl, hv, fun a fr => ?_⟩
    obtain ⟨hc, h⟩ := ifs h
    obtain ⟨o30, hx, h⟩ := lt_h h
    have H := order_call (A := A26) (c := c27) (l := [(1 : Int), (2 : Int)]) (A1 := A28) (c1 := c29) (l1 := [(2 : Int), (1 : Int)]) (Sat.ownAt S 1 rfl) (Sat.ownAt S 0 rfl) (fr.slice (d := 53) rfl) (fr.slice (d := 55) rfl) hc S
    rw [hx] at H
    refine wl_call fr rfl rfl rfl rfl en18 H ?_
    clear H
    rintro _ w ⟨A31, c32, rfl, hv, S⟩
    refine ⟨_, rfl, hv, fun a fr => ?_⟩
    refine wl_run orc_ok 5 rfl fr fun a fr => ?_
    refine wpList_nil ?_
    refine then_n ?_
    refine wp_seq ?_
    refine wp_region_lit ?_
    refine wl_lit (xs := [(1 : Int)]) orc_ok lit22 fr rfl rfl rfl rfl ⟨rfl, rfl, trivial⟩ rfl rfl S ?_
    intro w A33 c34 S
    intro a fr
    have hv := (fr.vok (d := 60) rfl)
    refine wl_call fr rfl rfl rfl rfl en23 (ids_call hv) ?_
    rintro _ w ⟨rfl, hw⟩
    subst hw
    refine ⟨_, rfl, hv, fun a fr => ?_⟩
    refine wl_lit (xs := [(1 : Int)]) orc_ok lit22 fr rfl rfl rfl rfl ⟨rfl, rfl, trivial⟩ rfl rfl S ?_
    intro w A35 c36 S
    intro a fr
    have hv := (fr.vok (d := 62) rfl)
    refine wl_call fr rfl rfl rfl rfl en23 (ids_call hv) ?_
    rintro _ w ⟨rfl, hw⟩
    subst hw
    refine ⟨_, rfl, hv, fun a fr => ?_⟩
    obtain ⟨hc, h⟩ := ifs h
    obtain ⟨o37, hx, h⟩ := lt_h h
    have H := order_call (A := A33) (c := c34) (l := [(1 : Int)]) (A1 := A35) (c1 := c36) (l1 := [(1 : Int)]) (Sat.ownAt S 1 rfl) (Sat.ownAt S 0 rfl) (fr.slice (d := 61) rfl) (fr.slice (d := 63) rfl) hc S
    rw [hx] at H
    refine wl_call fr rfl rfl rfl rfl en18 H ?_
    clear H
    rintro _ w ⟨A38, c39, rfl, hv, S⟩
    refine ⟨_, rfl, hv, fun a fr => ?_⟩
    refine wl_run orc_ok 5 rfl fr fun a fr => ?_
    refine wpList_nil ?_
    refine then_n ?_
    refine wp_seq ?_
    refine wp_region_lit ?_
    obtain ⟨hc, h⟩ := ifs h
    obtain ⟨o40, hx, h⟩ := lt_h h
    have H := order_call (A := none) (c := 0) (l := ([] : List Int)) (A1 := none) (c1 := 0) (l1 := ([] : List Int)) Rk.nil Rk.nil ⟨Nat.le_refl _, Nat.zero_le _⟩ ⟨Nat.le_refl _, Nat.zero_le _⟩ hc S
    rw [hx] at H
    refine wl_call fr rfl rfl rfl rfl en18 H ?_
    clear H
    rintro _ w ⟨A41, c42, rfl, hv, S⟩
    refine ⟨_, rfl, hv, fun a fr => ?_⟩
    refine wl_run orc_ok 5 rfl fr fun a fr => ?_
    refine wpList_nil ?_
    refine then_n ?_
    refine wp_seq ?_
    refine wp_region_lit ?_
    refine wl_run orc_ok 2 rfl fr fun a fr => ?_
    refine wl_split 72 fr rfl h (fun fr h => ?_) (fun fr h => ?_)
    · refine wl_run orc_ok 4 rfl fr fun a fr => ?_
      refine wl_split 76 fr rfl h (fun fr h => ?_) (fun fr h => ?_)
      · refine wl_run orc_ok 3 rfl fr fun a fr => ?_
        refine wl_split 79 fr rfl h (fun fr h => ?_) (fun fr h => ?_)
        · refine wl_run orc_ok 4 rfl fr fun a fr => ?_
          refine wl_split 83 fr rfl h (fun fr h => ?_) (fun fr h => ?_)
          · refine wl_run orc_ok 3 rfl fr fun a fr => ?_
            refine wl_split 86 fr rfl h (fun fr h => ?_) (fun fr h => ?_)
            · refine wl_run orc_ok 1 rfl fr fun a fr => ?_
              refine wl_lit (xs := [(3 : Int), (2 : Int), (1 : Int), (5 : Int)]) orc_ok lit22 fr rfl rfl rfl rfl ⟨rfl, rfl, rfl, rfl, rfl, rfl, rfl, rfl, trivial⟩ rfl rfl S ?_
              intro w A43 c44 S
              intro a fr
              have hv := (fr.vok (d := 88) rfl)
              refine wl_call fr rfl rfl rfl rfl en23 (ids_call hv) ?_
              rintro _ w ⟨rfl, hw⟩
              subst hw
              refine ⟨_, rfl, hv, fun a fr => ?_⟩
              obtain ⟨r45, hr, h⟩ := bnd h
              refine wl_call fr rfl rfl rfl rfl en20 (SameIds.walk k A24 c25 (Option.getD o23 []) A43 c44 [(3 : Int), (2 : Int), (1 : Int), (5 : Int)] (Sat.ownAt S 8 rfl) (fr.slice (d := 87) rfl) (Sat.ownAt S 0 rfl) (fr.slice (d := 89) rfl) S hr) ?_
              rintro _ w ⟨rfl, hv, S⟩
              refine ⟨_, rfl, hv, fun a fr => ?_⟩
              refine wl_run orc_ok 2 rfl fr fun a fr => ?_
              refine wl_split 92 fr rfl h (fun fr h => ?_) (fun fr h => ?_)
              · refine wl_run orc_ok 4 rfl fr fun a fr => ?_
                refine wl_split 96 fr rfl h (fun fr h => ?_) (fun fr h => ?_)
                · refine wl_run orc_ok 4 rfl fr fun a fr => ?_
                  refine wl_split 100 fr rfl h (fun fr h => ?_) (fun fr h => ?_)
                  · refine wl_run orc_ok 3 rfl fr fun a fr => ?_
                    refine wl_split 103 fr rfl h (fun fr h => ?_) (fun fr h => ?_)
                    · refine wl_run orc_ok 5 rfl fr fun a fr => ?_
                      obtain ⟨y46, hx, h⟩ := lt_h h
                      have fr := fr.spell (d := 0) rfl (congrArg Value.bool hx)
                      refine wpList_nil ?_
                      refine then_n ?_
                      refine wp_ret ?_
                      injection h with h
                      subst h
                      refine ret1 fr rfl rfl ?_
                      exact ⟨rfl, fr.vok (d := 0) rfl, S.mask [false, false, false, false, false, false, false, false, false, false, false, false, false, false, false, false]⟩
                    · refine wl_run orc_ok 5 rfl fr fun a fr => ?_
                      refine wpList_nil ?_
                      refine then_n ?_
                      refine wp_ret ?_
                      injection h with h
                      subst h
                      refine ret1 fr rfl rfl ?_
                      exact ⟨rfl, fr.vok (d := 0) rfl, S.mask [false, false, false, false, false, false, false, false, false, false, false, false, false, false, false, false]⟩
                  · refine wl_run orc_ok 8 rfl fr fun a fr => ?_
                    refine wpList_nil ?_
                    refine then_n ?_
                    refine wp_ret ?_
                    injection h with h
                    subst h
                    refine ret1 fr rfl rfl ?_
                    exact ⟨rfl, fr.vok (d := 0) rfl, S.mask [false, false, false, false, false, false, false, false, false, false, false, false, false, false, false, false]⟩
                · refine wl_run orc_ok 12 rfl fr fun a fr => ?_
                  refine wpList_nil ?_
                  refine then_n ?_
                  refine wp_ret ?_
                  injection h with h
                  subst h
                  refine ret1 fr rfl rfl ?_
                  exact ⟨rfl, fr.vok (d := 0) rfl, S.mask [false, false, false, false, false, false, false, false, false, false, false, false, false, false, false, false]⟩
              · refine wl_run orc_ok 16 rfl fr fun a fr => ?_
                refine wpList_nil ?_
                refine then_n ?_
                refine wp_ret ?_
                injection h with h
                subst h
                refine ret1 fr rfl rfl ?_
                exact ⟨rfl, fr.vok (d := 0) rfl, S.mask [false, false, false, false, false, false, false, false, false, false, false, false, false, false, false, false]⟩
            · refine wl_run orc_ok 22 rfl fr fun a fr => ?_
              refine wpList_nil ?_
              refine then_n ?_
              refine wp_ret ?_
              injection h with h
              subst h
              refine ret1 fr rfl rfl ?_
              exact ⟨rfl, fr.vok (d := 0) rfl, S.mask [false, false, false, false, false, false, false, false, false, false, false, false, false, false, false]⟩
          · refine wl_run orc_ok 25 rfl fr fun a fr => ?_
            refine wpList_nil ?_
            refine then_n ?_
            refine wp_ret ?_
            injection h with h
            subst h
            refine ret1 fr rfl rfl ?_
            exact ⟨rfl, fr.vok (d := 0) rfl, S.mask [false, false, false, false, false, false, false, false, false, false, false, false, false, false, false]⟩
        · refine wl_run orc_ok 29 rfl fr fun a fr => ?_
          refine wpList_nil ?_
          refine then_n ?_
          refine wp_ret ?_
          injection h with h
          subst h
          refine ret1 fr rfl rfl ?_
          exact ⟨rfl, fr.vok (d := 0) rfl, S.mask [false, false, false, false, false, false, false, false, false, false, false, false, false, false, false]⟩
      · refine wl_run orc_ok 32 rfl fr fun a fr => ?_
        refine wpList_nil ?_
        refine then_n ?_
        refine wp_ret ?_
        injection h with h
        subst h
        refine ret1 fr rfl rfl ?_
        exact ⟨rfl, fr.vok (d := 0) rfl, S.mask [false, false, false, false, false, false, false, false, false, false, false, false, false, false, false]⟩
    · refine wl_run orc_ok 36 rfl fr fun a fr => ?_
      refine wpList_nil ?_
      refine then_n ?_
      refine wp_ret ?_
      injection h with h
      subst h
      refine ret1 fr rfl rfl ?_
      exact ⟨rfl, fr.vok (d := 0) rfl, S.mask [false, false, false, false, false, false, false, false, false, false, false, false, false, false, false]⟩
  exact (key w rfl (Sat.start w)).mono fun e w' ⟨h1, h2, h3⟩ => ⟨h1, h2, S.new h3.below⟩
set_option maxRecDepth 100000 in
set_option maxHeartbeats 4000000 in
theorem RingsMore.walk (k : Nat) (A0 : Option Addr) (c0 : Nat) (l0 : List Int) (A1 : Option Addr) (c1 : Nat) (l1 : List Int) (l2 : List Int) {w0 w : World} {R : List Asn} (rk0 : Rk .u32 w A0 l0) (m0 : l0.length ≤ c0 ∧ c0 ≤ maxLen) (rk1 : Rk .u32 w A1 l1) (m1 : l1.length ≤ c1 ∧ c1 ≤ maxLen) (n2 : l2.length = 2) (v2 : ∀ z ∈ l2, (Lit.int .u32 z).wf = true) (S : Sat w0 w R) {r : Bool} (h : RingsMore.f k l0 l1 l2 = some r) :
    Calls Try.prog 9 #[(.slice A0 (List.length l0) c0), (.slice A1 (List.length l1) c1), (.agg (List.map (Value.int .u32) l2).toArray)] w fun e w' => e = .returned (.bool r) ∧ vok (.bool r) = true ∧ Sat w0 w' R := by
  have key : ∀ w0 : World, w0 = w → Sat w0 w [] → Calls Try.prog 9 #[(.slice A0 (List.length l0) c0), (.slice A1 (List.length l1) c1), (.agg (List.map (Value.int .u32) l2).toArray)] w fun e w' => e = .returned (.bool r) ∧ vok (.bool r) = true ∧ Sat w0 w' [] := by
    clear S
    intro w0 hw S
    rw [← hw] at rk0
    rw [← hw] at rk1
    clear hw
    unfold RingsMore.f at h
    refine calls_start (N := 71) [(.slice A0 (List.length l0) c0), (.slice A1 (List.length l1) c1), (.agg (List.map (Value.int .u32) l2).toArray)] Try.func9 rfl rfl rfl (vok_c (vok_sl m0) (vok_c (vok_sl m1) (vok_c (vok_ag v2) rfl))) fun a fr => ?_
    refine wp_seq ?_
    refine wp_region_lit ?_
    refine wl_box fr rfl rfl rfl rfl rfl n2 (fun _ => rfl) S ?_
    intro w g1 S a fr
    refine wl_run orc_ok 1 rfl fr fun a fr => ?_
    refine wpList_nil ?_
    refine then_n ?_
    refine wp_seq ?_
    refine wp_seq ?_
    refine wp_region_lit ?_
    obtain ⟨r2, hr, h⟩ := bnd h
    refine wl_call fr rfl rfl rfl rfl en17 (alive.walk k  S hr) ?_
    rintro _ w ⟨rfl, hv, S⟩
    refine ⟨_, rfl, hv, fun a fr => ?_⟩
    refine wl_run orc_ok 2 rfl fr fun a fr => ?_
    refine wl_split 15 fr rfl h (fun fr h => ?_) (fun fr h => ?_)
    · refine wl_run orc_ok 11 rfl fr fun a fr => ?_
      refine wpList_nil ?_
      refine then_n ?_
      refine cw_t fr rfl ?_
      refine wp_seq ?_
      refine wp_region_lit ?_
      obtain ⟨r3, hr, h⟩ := bnd h
      refine wl_call fr rfl rfl rfl rfl en17 (alive.walk k  S hr) ?_
      rintro _ w ⟨rfl, hv, S⟩
      refine ⟨_, rfl, hv, fun a fr => ?_⟩
      refine wl_run orc_ok 1 rfl fr fun a fr => ?_
      refine wpList_nil ?_
      refine then_n ?_
      refine wp_ret ?_
      refine then_r ?_
      injection h with h
      subst h
      refine ret1 fr rfl rfl ?_
      exact ⟨rfl, fr.vok (d := 6) rfl, S.mask [false]⟩
    · refine wl_run orc_ok 5 rfl fr fun a fr => ?_
      refine wl_split 20 fr rfl h (fun fr h => ?_) (fun fr h => ?_)
      · refine wl_run orc_ok 6 rfl fr fun a fr => ?_
        refine wpList_nil ?_
        refine then_n ?_
        refine cw_t fr rfl ?_
        refine wp_seq ?_
        refine wp_region_lit ?_
        obtain ⟨r4, hr, h⟩ := bnd h
        refine wl_call fr rfl rfl rfl rfl en17 (alive.walk k  S hr) ?_
        rintro _ w ⟨rfl, hv, S⟩
        refine ⟨_, rfl, hv, fun a fr => ?_⟩
        refine wl_run orc_ok 1 rfl fr fun a fr => ?_
        refine wpList_nil ?_
        refine then_n ?_
        refine wp_ret ?_
        refine then_r ?_
        injection h with h
        subst h
        refine ret1 fr rfl rfl ?_
        exact ⟨rfl, fr.vok (d := 6) rfl, S.mask [false]⟩
      · refine wl_run orc_ok 6 rfl fr fun a fr => ?_
        refine wpList_nil ?_
        refine then_n ?_
        refine cw_if fr rfl h (fun h => ?_) (fun h => ?_)
        · refine wp_seq ?_
          refine wp_region_lit ?_
          obtain ⟨r5, hr, h⟩ := bnd h
          refine wl_call fr rfl rfl rfl rfl en17 (alive.walk k  S hr) ?_
          rintro _ w ⟨rfl, hv, S⟩
          refine ⟨_, rfl, hv, fun a fr => ?_⟩
          refine wl_run orc_ok 1 rfl fr fun a fr => ?_
          refine wpList_nil ?_
          refine then_n ?_
          refine wp_ret ?_
          refine then_r ?_
          injection h with h
          subst h
          refine ret1 fr rfl rfl ?_
          exact ⟨rfl, fr.vok (d := 6) rfl, S.mask [false]⟩
        · refine wp_skip ?_
          refine then_n ?_
          refine wp_seq ?_
          refine wp_region_lit ?_
          refine wl_run orc_ok 2 rfl fr fun a fr => ?_
          obtain ⟨hc, h⟩ := ifs h
          obtain ⟨o6, hx, h⟩ := lt_h h
          have H := order_call (A := A0) (c := c0) (l := l0) (A1 := A1) (c1 := c1) (l1 := l1) (Rk.at rk0 S) (Rk.at rk1 S) (fr.slice (d := 29) rfl) (fr.slice (d := 30) rfl) hc S
          rw [hx] at H
          refine wl_call fr rfl rfl rfl rfl en18 H ?_
          clear H
          rintro _ w ⟨A7, c8, rfl, hv, S⟩
          refine ⟨_, rfl, hv, fun a fr => ?_⟩
          refine wl_run orc_ok 5 rfl fr fun a fr => ?_
          refine wpList_nil ?_
          refine then_n ?_
          refine wp_seq ?_
          refine wp_region_lit ?_
          refine wl_run orc_ok 2 rfl fr fun a fr => ?_
          obtain ⟨hc, h⟩ := ifs h
          refine wl_lda orc_ok 0 (Sat.arrAt S 1 rfl) fr rfl rfl rfl rfl rfl rfl rfl rfl rfl rfl rfl rfl rfl rfl rfl rfl hc fun a fr => ?_
          obtain ⟨hc, h⟩ := ifs h
          refine wl_lda orc_ok 0 (Sat.arrAt S 1 rfl) fr rfl rfl rfl rfl rfl rfl rfl rfl rfl rfl rfl rfl rfl rfl rfl rfl hc fun a fr => ?_
          obtain ⟨hc, h⟩ := ifs h
          obtain ⟨y9, hx, h⟩ := lt_h h
          obtain ⟨y10, hx2, h⟩ := lt_h h
          have H := closes_call (A := A0) (c := c0) (l := l0) (A1 := A1) (c1 := c1) (l1 := l1) (who := (List.getD l2 (Int.toNat (0 : Int)) 0)) (whom := (List.getD l2 (Int.toNat (1 : Int)) 0)) (Rk.at rk0 S) (Rk.at rk1 S) (fr.slice (d := 35) rfl) (fr.slice (d := 36) rfl) (fr.int (d := 38) rfl) (fr.int (d := 40) rfl) hc S
          have hv := vok_cl (if List.length l0 = List.length l1 then comesB (List.zip l0 l1) (List.getD l2 (Int.toNat (1 : Int)) 0) (List.getD l2 (Int.toNat (0 : Int)) 0) else false) (List.length l0 = List.length l1)
          rw [hx, hx2] at hv H
          refine wl_call fr rfl rfl rfl rfl en14 H ?_
          clear H
          rintro _ w ⟨rfl, S⟩
          refine ⟨_, rfl, hv, fun a fr => ?_⟩
          refine wl_run orc_ok 5 rfl fr fun a fr => ?_
          refine wpList_nil ?_
          refine then_n ?_
          refine wp_seq ?_
          obtain ⟨hc_1, h⟩ := ifs h
          obtain ⟨hc_2, h⟩ := ifs h
          obtain ⟨hc_3, h⟩ := ifs h
          obtain ⟨hc_4, h⟩ := ifs h
          obtain ⟨hc_5, h⟩ := ifs h
          refine wp_region_pool (fun n => match n with | 0 => fun a w => Fr 71 a [(0, (.slice A0 (List.length l0) c0)), (1, (.slice A1 (List.length l1) c1)), (2, (.agg (List.map (Value.int .u32) l2).toArray)), (5, (.pointer (some ⟨g1, 0, none⟩))), (6, (.bool false)), (7, (.slice A7 (List.length (Option.getD o6 [])) c8)), (8, (.bool (Option.isSome o6))), (9, (.bool y9)), (10, (.int .i64 y10)), (13, (.bool r2)), (14, (.bool (!r2))), (15, (.bool false)), (16, (.slice A0 (List.length l0) c0)), (17, (.int .i64 (List.length l0 : Int))), (18, (.bool (decide ((List.length l0 : Int) > (30 : Int))))), (19, (.bool (decide ((List.length l0 : Int) > (30 : Int))))), (20, (.bool false)), (21, (.slice A0 (List.length l0) c0)), (22, (.int .i64 (List.length l0 : Int))), (23, (.slice A1 (List.length l1) c1)), (24, (.int .i64 (List.length l1 : Int))), (25, (.bool ((List.length l0 : Int) != (List.length l1 : Int)))), (26, (.bool ((List.length l0 : Int) != (List.length l1 : Int)))), (28, (.tuple #[(.slice A7 (List.length (Option.getD o6 [])) c8), (.bool (Option.isSome o6))])), (29, (.slice A0 (List.length l0) c0)), (30, (.slice A1 (List.length l1) c1)), (31, (.tuple #[(.slice A7 (List.length (Option.getD o6 [])) c8), (.bool (Option.isSome o6))])), (32, (.slice A7 (List.length (Option.getD o6 [])) c8)), (33, (.bool (Option.isSome o6))), (34, (.tuple #[(.bool y9), (.int .i64 y10)])), (35, (.slice A0 (List.length l0) c0)), (36, (.slice A1 (List.length l1) c1)), (38, (.int .u32 (List.getD l2 (Int.toNat (0 : Int)) 0))), (40, (.int .u32 (List.getD l2 (Int.toNat (1 : Int)) 0))), (41, (.tuple #[(.bool y9), (.int .i64 y10)])), (42, (.bool y9)), (43, (.int .i64 y10)), (45, (.slice A0 (List.length l0) c0)), (48, (.int .u32 (List.getD l2 (Int.toNat (0 : Int)) 0))), (51, (.slice A1 (List.length l1) c1)), (54, (.int .u32 (List.getD l2 (Int.toNat (1 : Int)) 0)))] ∧ Sat w0 w [ownA .u32 23 A7 c8 (Option.getD o6 []), arrA (Value.int .u32) 24 2 g1 l2] | 1 => fun a w => ∃ A11 : Option Addr, ∃ c12 : Nat, Fr 71 a [(0, (.slice A0 (List.length l0) c0)), (1, (.slice A1 (List.length l1) c1)), (2, (.agg (List.map (Value.int .u32) l2).toArray)), (5, (.pointer (some ⟨g1, 0, none⟩))), (6, (.bool false)), (7, (.slice A7 (List.length (Option.getD o6 [])) c8)), (8, (.bool (Option.isSome o6))), (9, (.bool y9)), (10, (.int .i64 y10)), (13, (.bool r2)), (14, (.bool (!r2))), (15, (.bool false)), (16, (.slice A0 (List.length l0) c0)), (17, (.int .i64 (List.length l0 : Int))), (18, (.bool (decide ((List.length l0 : Int) > (30 : Int))))), (19, (.bool (decide ((List.length l0 : Int) > (30 : Int))))), (20, (.bool false)), (21, (.slice A0 (List.length l0) c0)), (22, (.int .i64 (List.length l0 : Int))), (23, (.slice A1 (List.length l1) c1)), (24, (.int .i64 (List.length l1 : Int))), (25, (.bool ((List.length l0 : Int) != (List.length l1 : Int)))), (26, (.bool ((List.length l0 : Int) != (List.length l1 : Int)))), (28, (.tuple #[(.slice A7 (List.length (Option.getD o6 [])) c8), (.bool (Option.isSome o6))])), (29, (.slice A0 (List.length l0) c0)), (30, (.slice A1 (List.length l1) c1)), (31, (.tuple #[(.slice A7 (List.length (Option.getD o6 [])) c8), (.bool (Option.isSome o6))])), (32, (.slice A7 (List.length (Option.getD o6 [])) c8)), (33, (.bool (Option.isSome o6))), (34, (.tuple #[(.bool y9), (.int .i64 y10)])), (35, (.slice A0 (List.length l0) c0)), (36, (.slice A1 (List.length l1) c1)), (38, (.int .u32 (List.getD l2 (Int.toNat (0 : Int)) 0))), (40, (.int .u32 (List.getD l2 (Int.toNat (1 : Int)) 0))), (41, (.tuple #[(.bool y9), (.int .i64 y10)])), (42, (.bool y9)), (43, (.int .i64 y10)), (45, (.slice A0 (List.length l0) c0)), (46, (.slice A11 (List.length l0) c12)), (48, (.int .u32 (List.getD l2 (Int.toNat (0 : Int)) 0))), (51, (.slice A1 (List.length l1) c1)), (54, (.int .u32 (List.getD l2 (Int.toNat (1 : Int)) 0)))] ∧ Sat w0 w [twA A11 c12 l0, ownA .u32 23 A7 c8 (Option.getD o6 []), arrA (Value.int .u32) 24 2 g1 l2] | 2 => fun a w => ∃ A21 : Option Addr, ∃ c22 : Nat, Fr 71 a [(0, (.slice A0 (List.length l0) c0)), (1, (.slice A1 (List.length l1) c1)), (2, (.agg (List.map (Value.int .u32) l2).toArray)), (5, (.pointer (some ⟨g1, 0, none⟩))), (6, (.bool false)), (7, (.slice A7 (List.length (Option.getD o6 [])) c8)), (8, (.bool (Option.isSome o6))), (9, (.bool y9)), (10, (.int .i64 y10)), (13, (.bool r2)), (14, (.bool (!r2))), (15, (.bool false)), (16, (.slice A0 (List.length l0) c0)), (17, (.int .i64 (List.length l0 : Int))), (18, (.bool (decide ((List.length l0 : Int) > (30 : Int))))), (19, (.bool (decide ((List.length l0 : Int) > (30 : Int))))), (20, (.bool false)), (21, (.slice A0 (List.length l0) c0)), (22, (.int .i64 (List.length l0 : Int))), (23, (.slice A1 (List.length l1) c1)), (24, (.int .i64 (List.length l1 : Int))), (25, (.bool ((List.length l0 : Int) != (List.length l1 : Int)))), (26, (.bool ((List.length l0 : Int) != (List.length l1 : Int)))), (28, (.tuple #[(.slice A7 (List.length (Option.getD o6 [])) c8), (.bool (Option.isSome o6))])), (29, (.slice A0 (List.length l0) c0)), (30, (.slice A1 (List.length l1) c1)), (31, (.tuple #[(.slice A7 (List.length (Option.getD o6 [])) c8), (.bool (Option.isSome o6))])), (32, (.slice A7 (List.length (Option.getD o6 [])) c8)), (33, (.bool (Option.isSome o6))), (34, (.tuple #[(.bool y9), (.int .i64 y10)])), (35, (.slice A0 (List.length l0) c0)), (36, (.slice A1 (List.length l1) c1)), (38, (.int .u32 (List.getD l2 (Int.toNat (0 : Int)) 0))), (40, (.int .u32 (List.getD l2 (Int.toNat (1 : Int)) 0))), (41, (.tuple #[(.bool y9), (.int .i64 y10)])), (42, (.bool y9)), (43, (.int .i64 y10)), (45, (.slice A0 (List.length l0) c0)), (48, (.int .u32 (List.getD l2 (Int.toNat (0 : Int)) 0))), (49, (.slice A21 (List.length [(List.getD l2 (Int.toNat (0 : Int)) 0)]) c22)), (51, (.slice A1 (List.length l1) c1)), (54, (.int .u32 (List.getD l2 (Int.toNat (1 : Int)) 0)))] ∧ Sat w0 w [ownA .u32 23 A21 c22 [(List.getD l2 (Int.toNat (0 : Int)) 0)], ownA .u32 23 A7 c8 (Option.getD o6 []), arrA (Value.int .u32) 24 2 g1 l2] | 3 => fun a w => ∃ A23 : Option Addr, ∃ c24 : Nat, Fr 71 a [(0, (.slice A0 (List.length l0) c0)), (1, (.slice A1 (List.length l1) c1)), (2, (.agg (List.map (Value.int .u32) l2).toArray)), (5, (.pointer (some ⟨g1, 0, none⟩))), (6, (.bool false)), (7, (.slice A7 (List.length (Option.getD o6 [])) c8)), (8, (.bool (Option.isSome o6))), (9, (.bool y9)), (10, (.int .i64 y10)), (13, (.bool r2)), (14, (.bool (!r2))), (15, (.bool false)), (16, (.slice A0 (List.length l0) c0)), (17, (.int .i64 (List.length l0 : Int))), (18, (.bool (decide ((List.length l0 : Int) > (30 : Int))))), (19, (.bool (decide ((List.length l0 : Int) > (30 : Int))))), (20, (.bool false)), (21, (.slice A0 (List.length l0) c0)), (22, (.int .i64 (List.length l0 : Int))), (23, (.slice A1 (List.length l1) c1)), (24, (.int .i64 (List.length l1 : Int))), (25, (.bool ((List.length l0 : Int) != (List.length l1 : Int)))), (26, (.bool ((List.length l0 : Int) != (List.length l1 : Int)))), (28, (.tuple #[(.slice A7 (List.length (Option.getD o6 [])) c8), (.bool (Option.isSome o6))])), (29, (.slice A0 (List.length l0) c0)), (30, (.slice A1 (List.length l1) c1)), (31, (.tuple #[(.slice A7 (List.length (Option.getD o6 [])) c8), (.bool (Option.isSome o6))])), (32, (.slice A7 (List.length (Option.getD o6 [])) c8)), (33, (.bool (Option.isSome o6))), (34, (.tuple #[(.bool y9), (.int .i64 y10)])), (35, (.slice A0 (List.length l0) c0)), (36, (.slice A1 (List.length l1) c1)), (38, (.int .u32 (List.getD l2 (Int.toNat (0 : Int)) 0))), (40, (.int .u32 (List.getD l2 (Int.toNat (1 : Int)) 0))), (41, (.tuple #[(.bool y9), (.int .i64 y10)])), (42, (.bool y9)), (43, (.int .i64 y10)), (45, (.slice A0 (List.length l0) c0)), (48, (.int .u32 (List.getD l2 (Int.toNat (0 : Int)) 0))), (51, (.slice A1 (List.length l1) c1)), (54, (.int .u32 (List.getD l2 (Int.toNat (1 : Int)) 0))), (55, (.slice A23 (List.length [(List.getD l2 (Int.toNat (1 : Int)) 0)]) c24))] ∧ Sat w0 w [ownA .u32 23 A23 c24 [(List.getD l2 (Int.toNat (1 : Int)) 0)], ownA .u32 23 A7 c8 (Option.getD o6 []), arrA (Value.int .u32) 24 2 g1 l2] | 4 => fun a w => ∃ A13 : Option Addr, ∃ c14 : Nat, ∃ A11 : Option Addr, ∃ c12 : Nat, Fr 71 a [(0, (.slice A0 (List.length l0) c0)), (1, (.slice A1 (List.length l1) c1)), (2, (.agg (List.map (Value.int .u32) l2).toArray)), (5, (.pointer (some ⟨g1, 0, none⟩))), (6, (.bool false)), (7, (.slice A7 (List.length (Option.getD o6 [])) c8)), (8, (.bool (Option.isSome o6))), (9, (.bool y9)), (10, (.int .i64 y10)), (13, (.bool r2)), (14, (.bool (!r2))), (15, (.bool false)), (16, (.slice A0 (List.length l0) c0)), (17, (.int .i64 (List.length l0 : Int))), (18, (.bool (decide ((List.length l0 : Int) > (30 : Int))))), (19, (.bool (decide ((List.length l0 : Int) > (30 : Int))))), (20, (.bool false)), (21, (.slice A0 (List.length l0) c0)), (22, (.int .i64 (List.length l0 : Int))), (23, (.slice A1 (List.length l1) c1)), (24, (.int .i64 (List.length l1 : Int))), (25, (.bool ((List.length l0 : Int) != (List.length l1 : Int)))), (26, (.bool ((List.length l0 : Int) != (List.length l1 : Int)))), (28, (.tuple #[(.slice A7 (List.length (Option.getD o6 [])) c8), (.bool (Option.isSome o6))])), (29, (.slice A0 (List.length l0) c0)), (30, (.slice A1 (List.length l1) c1)), (31, (.tuple #[(.slice A7 (List.length (Option.getD o6 [])) c8), (.bool (Option.isSome o6))])), (32, (.slice A7 (List.length (Option.getD o6 [])) c8)), (33, (.bool (Option.isSome o6))), (34, (.tuple #[(.bool y9), (.int .i64 y10)])), (35, (.slice A0 (List.length l0) c0)), (36, (.slice A1 (List.length l1) c1)), (38, (.int .u32 (List.getD l2 (Int.toNat (0 : Int)) 0))), (40, (.int .u32 (List.getD l2 (Int.toNat (1 : Int)) 0))), (41, (.tuple #[(.bool y9), (.int .i64 y10)])), (42, (.bool y9)), (43, (.int .i64 y10)), (45, (.slice A0 (List.length l0) c0)), (46, (.slice A11 (List.length l0) c12)), (48, (.int .u32 (List.getD l2 (Int.toNat (0 : Int)) 0))), (49, (.slice A13 (List.length [(List.getD l2 (Int.toNat (0 : Int)) 0)]) c14)), (51, (.slice A1 (List.length l1) c1)), (54, (.int .u32 (List.getD l2 (Int.toNat (1 : Int)) 0)))] ∧ Sat w0 w [ownA .u32 23 A13 c14 [(List.getD l2 (Int.toNat (0 : Int)) 0)], twA A11 c12 l0, ownA .u32 23 A7 c8 (Option.getD o6 []), arrA (Value.int .u32) 24 2 g1 l2] | 5 => fun a w => ∃ A27 : Option Addr, ∃ c28 : Nat, ∃ A25 : Option Addr, ∃ c26 : Nat, Fr 71 a [(0, (.slice A0 (List.length l0) c0)), (1, (.slice A1 (List.length l1) c1)), (2, (.agg (List.map (Value.int .u32) l2).toArray)), (5, (.pointer (some ⟨g1, 0, none⟩))), (6, (.bool false)), (7, (.slice A7 (List.length (Option.getD o6 [])) c8)), (8, (.bool (Option.isSome o6))), (9, (.bool y9)), (10, (.int .i64 y10)), (13, (.bool r2)), (14, (.bool (!r2))), (15, (.bool false)), (16, (.slice A0 (List.length l0) c0)), (17, (.int .i64 (List.length l0 : Int))), (18, (.bool (decide ((List.length l0 : Int) > (30 : Int))))), (19, (.bool (decide ((List.length l0 : Int) > (30 : Int))))), (20, (.bool false)), (21, (.slice A0 (List.length l0) c0)), (22, (.int .i64 (List.length l0 : Int))), (23, (.slice A1 (List.length l1) c1)), (24, (.int .i64 (List.length l1 : Int))), (25, (.bool ((List.length l0 : Int) != (List.length l1 : Int)))), (26, (.bool ((List.length l0 : Int) != (List.length l1 : Int)))), (28, (.tuple #[(.slice A7 (List.length (Option.getD o6 [])) c8), (.bool (Option.isSome o6))])), (29, (.slice A0 (List.length l0) c0)), (30, (.slice A1 (List.length l1) c1)), (31, (.tuple #[(.slice A7 (List.length (Option.getD o6 [])) c8), (.bool (Option.isSome o6))])), (32, (.slice A7 (List.length (Option.getD o6 [])) c8)), (33, (.bool (Option.isSome o6))), (34, (.tuple #[(.bool y9), (.int .i64 y10)])), (35, (.slice A0 (List.length l0) c0)), (36, (.slice A1 (List.length l1) c1)), (38, (.int .u32 (List.getD l2 (Int.toNat (0 : Int)) 0))), (40, (.int .u32 (List.getD l2 (Int.toNat (1 : Int)) 0))), (41, (.tuple #[(.bool y9), (.int .i64 y10)])), (42, (.bool y9)), (43, (.int .i64 y10)), (45, (.slice A0 (List.length l0) c0)), (46, (.slice A25 (List.length l0) c26)), (48, (.int .u32 (List.getD l2 (Int.toNat (0 : Int)) 0))), (51, (.slice A1 (List.length l1) c1)), (54, (.int .u32 (List.getD l2 (Int.toNat (1 : Int)) 0))), (55, (.slice A27 (List.length [(List.getD l2 (Int.toNat (1 : Int)) 0)]) c28))] ∧ Sat w0 w [ownA .u32 23 A27 c28 [(List.getD l2 (Int.toNat (1 : Int)) 0)], twA A25 c26 l0, ownA .u32 23 A7 c8 (Option.getD o6 []), arrA (Value.int .u32) 24 2 g1 l2] | 6 => fun a w => ∃ A31 : Option Addr, ∃ c32 : Nat, ∃ A29 : Option Addr, ∃ c30 : Nat, Fr 71 a [(0, (.slice A0 (List.length l0) c0)), (1, (.slice A1 (List.length l1) c1)), (2, (.agg (List.map (Value.int .u32) l2).toArray)), (5, (.pointer (some ⟨g1, 0, none⟩))), (6, (.bool false)), (7, (.slice A7 (List.length (Option.getD o6 [])) c8)), (8, (.bool (Option.isSome o6))), (9, (.bool y9)), (10, (.int .i64 y10)), (13, (.bool r2)), (14, (.bool (!r2))), (15, (.bool false)), (16, (.slice A0 (List.length l0) c0)), (17, (.int .i64 (List.length l0 : Int))), (18, (.bool (decide ((List.length l0 : Int) > (30 : Int))))), (19, (.bool (decide ((List.length l0 : Int) > (30 : Int))))), (20, (.bool false)), (21, (.slice A0 (List.length l0) c0)), (22, (.int .i64 (List.length l0 : Int))), (23, (.slice A1 (List.length l1) c1)), (24, (.int .i64 (List.length l1 : Int))), (25, (.bool ((List.length l0 : Int) != (List.length l1 : Int)))), (26, (.bool ((List.length l0 : Int) != (List.length l1 : Int)))), (28, (.tuple #[(.slice A7 (List.length (Option.getD o6 [])) c8), (.bool (Option.isSome o6))])), (29, (.slice A0 (List.length l0) c0)), (30, (.slice A1 (List.length l1) c1)), (31, (.tuple #[(.slice A7 (List.length (Option.getD o6 [])) c8), (.bool (Option.isSome o6))])), (32, (.slice A7 (List.length (Option.getD o6 [])) c8)), (33, (.bool (Option.isSome o6))), (34, (.tuple #[(.bool y9), (.int .i64 y10)])), (35, (.slice A0 (List.length l0) c0)), (36, (.slice A1 (List.length l1) c1)), (38, (.int .u32 (List.getD l2 (Int.toNat (0 : Int)) 0))), (40, (.int .u32 (List.getD l2 (Int.toNat (1 : Int)) 0))), (41, (.tuple #[(.bool y9), (.int .i64 y10)])), (42, (.bool y9)), (43, (.int .i64 y10)), (45, (.slice A0 (List.length l0) c0)), (48, (.int .u32 (List.getD l2 (Int.toNat (0 : Int)) 0))), (49, (.slice A29 (List.length [(List.getD l2 (Int.toNat (0 : Int)) 0)]) c30)), (51, (.slice A1 (List.length l1) c1)), (54, (.int .u32 (List.getD l2 (Int.toNat (1 : Int)) 0))), (55, (.slice A31 (List.length [(List.getD l2 (Int.toNat (1 : Int)) 0)]) c32))] ∧ Sat w0 w [ownA .u32 23 A31 c32 [(List.getD l2 (Int.toNat (1 : Int)) 0)], ownA .u32 23 A29 c30 [(List.getD l2 (Int.toNat (0 : Int)) 0)], ownA .u32 23 A7 c8 (Option.getD o6 []), arrA (Value.int .u32) 24 2 g1 l2] | 7 => fun a w => ∃ A15 : Option Addr, ∃ c16 : Nat, Fr 71 a [(0, (.slice A0 (List.length l0) c0)), (1, (.slice A1 (List.length l1) c1)), (2, (.agg (List.map (Value.int .u32) l2).toArray)), (5, (.pointer (some ⟨g1, 0, none⟩))), (6, (.bool false)), (7, (.slice A7 (List.length (Option.getD o6 [])) c8)), (8, (.bool (Option.isSome o6))), (9, (.bool y9)), (10, (.int .i64 y10)), (13, (.bool r2)), (14, (.bool (!r2))), (15, (.bool false)), (16, (.slice A0 (List.length l0) c0)), (17, (.int .i64 (List.length l0 : Int))), (18, (.bool (decide ((List.length l0 : Int) > (30 : Int))))), (19, (.bool (decide ((List.length l0 : Int) > (30 : Int))))), (20, (.bool false)), (21, (.slice A0 (List.length l0) c0)), (22, (.int .i64 (List.length l0 : Int))), (23, (.slice A1 (List.length l1) c1)), (24, (.int .i64 (List.length l1 : Int))), (25, (.bool ((List.length l0 : Int) != (List.length l1 : Int)))), (26, (.bool ((List.length l0 : Int) != (List.length l1 : Int)))), (28, (.tuple #[(.slice A7 (List.length (Option.getD o6 [])) c8), (.bool (Option.isSome o6))])), (29, (.slice A0 (List.length l0) c0)), (30, (.slice A1 (List.length l1) c1)), (31, (.tuple #[(.slice A7 (List.length (Option.getD o6 [])) c8), (.bool (Option.isSome o6))])), (32, (.slice A7 (List.length (Option.getD o6 [])) c8)), (33, (.bool (Option.isSome o6))), (34, (.tuple #[(.bool y9), (.int .i64 y10)])), (35, (.slice A0 (List.length l0) c0)), (36, (.slice A1 (List.length l1) c1)), (38, (.int .u32 (List.getD l2 (Int.toNat (0 : Int)) 0))), (40, (.int .u32 (List.getD l2 (Int.toNat (1 : Int)) 0))), (41, (.tuple #[(.bool y9), (.int .i64 y10)])), (42, (.bool y9)), (43, (.int .i64 y10)), (45, (.slice A0 (List.length l0) c0)), (48, (.int .u32 (List.getD l2 (Int.toNat (0 : Int)) 0))), (50, (.slice A15 (List.length (l0 ++ [(List.getD l2 (Int.toNat (0 : Int)) 0)])) c16)), (51, (.slice A1 (List.length l1) c1)), (54, (.int .u32 (List.getD l2 (Int.toNat (1 : Int)) 0)))] ∧ Sat w0 w [ownA .u32 23 A15 c16 (l0 ++ [(List.getD l2 (Int.toNat (0 : Int)) 0)]), ownA .u32 23 A7 c8 (Option.getD o6 []), arrA (Value.int .u32) 24 2 g1 l2] | 8 => fun a w => ∃ A37 : Option Addr, ∃ c38 : Nat, ∃ A35 : Option Addr, ∃ c36 : Nat, ∃ A33 : Option Addr, ∃ c34 : Nat, Fr 71 a [(0, (.slice A0 (List.length l0) c0)), (1, (.slice A1 (List.length l1) c1)), (2, (.agg (List.map (Value.int .u32) l2).toArray)), (5, (.pointer (some ⟨g1, 0, none⟩))), (6, (.bool false)), (7, (.slice A7 (List.length (Option.getD o6 [])) c8)), (8, (.bool (Option.isSome o6))), (9, (.bool y9)), (10, (.int .i64 y10)), (13, (.bool r2)), (14, (.bool (!r2))), (15, (.bool false)), (16, (.slice A0 (List.length l0) c0)), (17, (.int .i64 (List.length l0 : Int))), (18, (.bool (decide ((List.length l0 : Int) > (30 : Int))))), (19, (.bool (decide ((List.length l0 : Int) > (30 : Int))))), (20, (.bool false)), (21, (.slice A0 (List.length l0) c0)), (22, (.int .i64 (List.length l0 : Int))), (23, (.slice A1 (List.length l1) c1)), (24, (.int .i64 (List.length l1 : Int))), (25, (.bool ((List.length l0 : Int) != (List.length l1 : Int)))), (26, (.bool ((List.length l0 : Int) != (List.length l1 : Int)))), (28, (.tuple #[(.slice A7 (List.length (Option.getD o6 [])) c8), (.bool (Option.isSome o6))])), (29, (.slice A0 (List.length l0) c0)), (30, (.slice A1 (List.length l1) c1)), (31, (.tuple #[(.slice A7 (List.length (Option.getD o6 [])) c8), (.bool (Option.isSome o6))])), (32, (.slice A7 (List.length (Option.getD o6 [])) c8)), (33, (.bool (Option.isSome o6))), (34, (.tuple #[(.bool y9), (.int .i64 y10)])), (35, (.slice A0 (List.length l0) c0)), (36, (.slice A1 (List.length l1) c1)), (38, (.int .u32 (List.getD l2 (Int.toNat (0 : Int)) 0))), (40, (.int .u32 (List.getD l2 (Int.toNat (1 : Int)) 0))), (41, (.tuple #[(.bool y9), (.int .i64 y10)])), (42, (.bool y9)), (43, (.int .i64 y10)), (45, (.slice A0 (List.length l0) c0)), (46, (.slice A33 (List.length l0) c34)), (48, (.int .u32 (List.getD l2 (Int.toNat (0 : Int)) 0))), (49, (.slice A35 (List.length [(List.getD l2 (Int.toNat (0 : Int)) 0)]) c36)), (51, (.slice A1 (List.length l1) c1)), (54, (.int .u32 (List.getD l2 (Int.toNat (1 : Int)) 0))), (55, (.slice A37 (List.length [(List.getD l2 (Int.toNat (1 : Int)) 0)]) c38))] ∧ Sat w0 w [ownA .u32 23 A37 c38 [(List.getD l2 (Int.toNat (1 : Int)) 0)], ownA .u32 23 A35 c36 [(List.getD l2 (Int.toNat (0 : Int)) 0)], twA A33 c34 l0, ownA .u32 23 A7 c8 (Option.getD o6 []), arrA (Value.int .u32) 24 2 g1 l2] | 9 => fun a w => ∃ A17 : Option Addr, ∃ c18 : Nat, ∃ A15 : Option Addr, ∃ c16 : Nat, Fr 71 a [(0, (.slice A0 (List.length l0) c0)), (1, (.slice A1 (List.length l1) c1)), (2, (.agg (List.map (Value.int .u32) l2).toArray)), (5, (.pointer (some ⟨g1, 0, none⟩))), (6, (.bool false)), (7, (.slice A7 (List.length (Option.getD o6 [])) c8)), (8, (.bool (Option.isSome o6))), (9, (.bool y9)), (10, (.int .i64 y10)), (13, (.bool r2)), (14, (.bool (!r2))), (15, (.bool false)), (16, (.slice A0 (List.length l0) c0)), (17, (.int .i64 (List.length l0 : Int))), (18, (.bool (decide ((List.length l0 : Int) > (30 : Int))))), (19, (.bool (decide ((List.length l0 : Int) > (30 : Int))))), (20, (.bool false)), (21, (.slice A0 (List.length l0) c0)), (22, (.int .i64 (List.length l0 : Int))), (23, (.slice A1 (List.length l1) c1)), (24, (.int .i64 (List.length l1 : Int))), (25, (.bool ((List.length l0 : Int) != (List.length l1 : Int)))), (26, (.bool ((List.length l0 : Int) != (List.length l1 : Int)))), (28, (.tuple #[(.slice A7 (List.length (Option.getD o6 [])) c8), (.bool (Option.isSome o6))])), (29, (.slice A0 (List.length l0) c0)), (30, (.slice A1 (List.length l1) c1)), (31, (.tuple #[(.slice A7 (List.length (Option.getD o6 [])) c8), (.bool (Option.isSome o6))])), (32, (.slice A7 (List.length (Option.getD o6 [])) c8)), (33, (.bool (Option.isSome o6))), (34, (.tuple #[(.bool y9), (.int .i64 y10)])), (35, (.slice A0 (List.length l0) c0)), (36, (.slice A1 (List.length l1) c1)), (38, (.int .u32 (List.getD l2 (Int.toNat (0 : Int)) 0))), (40, (.int .u32 (List.getD l2 (Int.toNat (1 : Int)) 0))), (41, (.tuple #[(.bool y9), (.int .i64 y10)])), (42, (.bool y9)), (43, (.int .i64 y10)), (45, (.slice A0 (List.length l0) c0)), (48, (.int .u32 (List.getD l2 (Int.toNat (0 : Int)) 0))), (50, (.slice A15 (List.length (l0 ++ [(List.getD l2 (Int.toNat (0 : Int)) 0)])) c16)), (51, (.slice A1 (List.length l1) c1)), (52, (.slice A17 (List.length l1) c18)), (54, (.int .u32 (List.getD l2 (Int.toNat (1 : Int)) 0)))] ∧ Sat w0 w [twA A17 c18 l1, ownA .u32 23 A15 c16 (l0 ++ [(List.getD l2 (Int.toNat (0 : Int)) 0)]), ownA .u32 23 A7 c8 (Option.getD o6 []), arrA (Value.int .u32) 24 2 g1 l2] | 10 => fun a w => ∃ A45 : Option Addr, ∃ c46 : Nat, ∃ A43 : Option Addr, ∃ c44 : Nat, Fr 71 a [(0, (.slice A0 (List.length l0) c0)), (1, (.slice A1 (List.length l1) c1)), (2, (.agg (List.map (Value.int .u32) l2).toArray)), (5, (.pointer (some ⟨g1, 0, none⟩))), (6, (.bool false)), (7, (.slice A7 (List.length (Option.getD o6 [])) c8)), (8, (.bool (Option.isSome o6))), (9, (.bool y9)), (10, (.int .i64 y10)), (13, (.bool r2)), (14, (.bool (!r2))), (15, (.bool false)), (16, (.slice A0 (List.length l0) c0)), (17, (.int .i64 (List.length l0 : Int))), (18, (.bool (decide ((List.length l0 : Int) > (30 : Int))))), (19, (.bool (decide ((List.length l0 : Int) > (30 : Int))))), (20, (.bool false)), (21, (.slice A0 (List.length l0) c0)), (22, (.int .i64 (List.length l0 : Int))), (23, (.slice A1 (List.length l1) c1)), (24, (.int .i64 (List.length l1 : Int))), (25, (.bool ((List.length l0 : Int) != (List.length l1 : Int)))), (26, (.bool ((List.length l0 : Int) != (List.length l1 : Int)))), (28, (.tuple #[(.slice A7 (List.length (Option.getD o6 [])) c8), (.bool (Option.isSome o6))])), (29, (.slice A0 (List.length l0) c0)), (30, (.slice A1 (List.length l1) c1)), (31, (.tuple #[(.slice A7 (List.length (Option.getD o6 [])) c8), (.bool (Option.isSome o6))])), (32, (.slice A7 (List.length (Option.getD o6 [])) c8)), (33, (.bool (Option.isSome o6))), (34, (.tuple #[(.bool y9), (.int .i64 y10)])), (35, (.slice A0 (List.length l0) c0)), (36, (.slice A1 (List.length l1) c1)), (38, (.int .u32 (List.getD l2 (Int.toNat (0 : Int)) 0))), (40, (.int .u32 (List.getD l2 (Int.toNat (1 : Int)) 0))), (41, (.tuple #[(.bool y9), (.int .i64 y10)])), (42, (.bool y9)), (43, (.int .i64 y10)), (45, (.slice A0 (List.length l0) c0)), (48, (.int .u32 (List.getD l2 (Int.toNat (0 : Int)) 0))), (50, (.slice A43 (List.length (l0 ++ [(List.getD l2 (Int.toNat (0 : Int)) 0)])) c44)), (51, (.slice A1 (List.length l1) c1)), (54, (.int .u32 (List.getD l2 (Int.toNat (1 : Int)) 0))), (55, (.slice A45 (List.length [(List.getD l2 (Int.toNat (1 : Int)) 0)]) c46))] ∧ Sat w0 w [ownA .u32 23 A45 c46 [(List.getD l2 (Int.toNat (1 : Int)) 0)], ownA .u32 23 A43 c44 (l0 ++ [(List.getD l2 (Int.toNat (0 : Int)) 0)]), ownA .u32 23 A7 c8 (Option.getD o6 []), arrA (Value.int .u32) 24 2 g1 l2] | 11 => fun a w => ∃ A19 : Option Addr, ∃ c20 : Nat, ∃ A17 : Option Addr, ∃ c18 : Nat, ∃ A15 : Option Addr, ∃ c16 : Nat, Fr 71 a [(0, (.slice A0 (List.length l0) c0)), (1, (.slice A1 (List.length l1) c1)), (2, (.agg (List.map (Value.int .u32) l2).toArray)), (5, (.pointer (some ⟨g1, 0, none⟩))), (6, (.bool false)), (7, (.slice A7 (List.length (Option.getD o6 [])) c8)), (8, (.bool (Option.isSome o6))), (9, (.bool y9)), (10, (.int .i64 y10)), (13, (.bool r2)), (14, (.bool (!r2))), (15, (.bool false)), (16, (.slice A0 (List.length l0) c0)), (17, (.int .i64 (List.length l0 : Int))), (18, (.bool (decide ((List.length l0 : Int) > (30 : Int))))), (19, (.bool (decide ((List.length l0 : Int) > (30 : Int))))), (20, (.bool false)), (21, (.slice A0 (List.length l0) c0)), (22, (.int .i64 (List.length l0 : Int))), (23, (.slice A1 (List.length l1) c1)), (24, (.int .i64 (List.length l1 : Int))), (25, (.bool ((List.length l0 : Int) != (List.length l1 : Int)))), (26, (.bool ((List.length l0 : Int) != (List.length l1 : Int)))), (28, (.tuple #[(.slice A7 (List.length (Option.getD o6 [])) c8), (.bool (Option.isSome o6))])), (29, (.slice A0 (List.length l0) c0)), (30, (.slice A1 (List.length l1) c1)), (31, (.tuple #[(.slice A7 (List.length (Option.getD o6 [])) c8), (.bool (Option.isSome o6))])), (32, (.slice A7 (List.length (Option.getD o6 [])) c8)), (33, (.bool (Option.isSome o6))), (34, (.tuple #[(.bool y9), (.int .i64 y10)])), (35, (.slice A0 (List.length l0) c0)), (36, (.slice A1 (List.length l1) c1)), (38, (.int .u32 (List.getD l2 (Int.toNat (0 : Int)) 0))), (40, (.int .u32 (List.getD l2 (Int.toNat (1 : Int)) 0))), (41, (.tuple #[(.bool y9), (.int .i64 y10)])), (42, (.bool y9)), (43, (.int .i64 y10)), (45, (.slice A0 (List.length l0) c0)), (48, (.int .u32 (List.getD l2 (Int.toNat (0 : Int)) 0))), (50, (.slice A15 (List.length (l0 ++ [(List.getD l2 (Int.toNat (0 : Int)) 0)])) c16)), (51, (.slice A1 (List.length l1) c1)), (52, (.slice A17 (List.length l1) c18)), (54, (.int .u32 (List.getD l2 (Int.toNat (1 : Int)) 0))), (55, (.slice A19 (List.length [(List.getD l2 (Int.toNat (1 : Int)) 0)]) c20))] ∧ Sat w0 w [ownA .u32 23 A19 c20 [(List.getD l2 (Int.toNat (1 : Int)) 0)], twA A17 c18 l1, ownA .u32 23 A15 c16 (l0 ++ [(List.getD l2 (Int.toNat (0 : Int)) 0)]), ownA .u32 23 A7 c8 (Option.getD o6 []), arrA (Value.int .u32) 24 2 g1 l2] | _ => fun _ _ => False) [.one (0, true, some 45), .one (2, true, some 47), .one (3, true, some 48), .one (6, true, some 51), .one (8, true, some 53), .one (9, true, some 54)]
            [.one ⟨true, some 45, (Go.Op.move (Go.Operand.tmp 0)), 22, none⟩,
    .one ⟨true, some 47, (Go.Op.indexAddr 24 (Go.Operand.tmp 5) (Go.Operand.const (Go.Value.int Go.IntKind.i64 0))), 0, none⟩,
    .one ⟨true, some 48, (Go.Op.load 23 (Go.Operand.tmp 47)), 23, none⟩,
    .one ⟨true, some 51, (Go.Op.move (Go.Operand.tmp 1)), 22, none⟩,
    .one ⟨true, some 53, (Go.Op.indexAddr 24 (Go.Operand.tmp 5) (Go.Operand.const (Go.Value.int Go.IntKind.i64 1))), 0, none⟩,
    .one ⟨true, some 54, (Go.Op.load 23 (Go.Operand.tmp 53)), 23, none⟩]
            [⟨0, #[true, false, true, true, false, false, true, false, true, true, false, false, false, false, false, false, false, false], [(1, some 46, 1), (4, some 49, 2), (10, some 55, 3)]⟩, ⟨1, #[true, true, true, true, false, false, true, false, true, true, false, false, false, false, false, false, false, false], [(4, some 49, 4), (10, some 55, 5)]⟩, ⟨2, #[true, false, true, true, true, false, true, false, true, true, false, false, false, false, false, false, false, false], [(1, some 46, 4), (10, some 55, 6)]⟩, ⟨3, #[true, false, true, true, false, false, true, false, true, true, true, false, false, false, false, false, false, false], [(1, some 46, 5), (4, some 49, 6)]⟩, ⟨4, #[true, true, true, true, true, false, true, false, true, true, false, false, false, false, false, false, false, false], [(5, some 50, 7), (10, some 55, 8)]⟩, ⟨5, #[true, true, true, true, false, false, true, false, true, true, true, false, false, false, false, false, false, false], [(4, some 49, 8)]⟩, ⟨6, #[true, false, true, true, true, false, true, false, true, true, true, false, false, false, false, false, false, false], [(1, some 46, 8)]⟩, ⟨7, #[true, true, true, true, true, true, true, false, true, true, false, false, false, false, false, false, false, false], [(7, some 52, 9), (10, some 55, 10)]⟩, ⟨8, #[true, true, true, true, true, false, true, false, true, true, true, false, false, false, false, false, false, false], [(5, some 50, 10)]⟩, ⟨9, #[true, true, true, true, true, true, true, true, true, true, false, false, false, false, false, false, false, false], [(10, some 55, 11)]⟩, ⟨10, #[true, true, true, true, true, true, true, false, true, true, true, false, false, false, false, false, false, false], [(7, some 52, 11)]⟩]
            ⟨0, #[true, false, true, true, false, false, true, false, true, true, false, false, false, false, false, false, false, false], [(1, some 46, 1), (4, some 49, 2), (10, some 55, 3)]⟩
            [(0, [(⟨false, some 46, (Go.Op.call { callee := (Go.Callee.value (Go.Operand.func 13)), args := #[(Go.Operand.tmp 45)], argTypes := #[22] }), 22, none⟩, 1), (⟨false, some 49, (Go.Op.buildSlice 22 1 #[(0, (Go.Operand.tmp 48))]), 22, none⟩, 2), (⟨false, some 55, (Go.Op.buildSlice 22 1 #[(0, (Go.Operand.tmp 54))]), 22, none⟩, 3)]), (1, [(⟨false, some 49, (Go.Op.buildSlice 22 1 #[(0, (Go.Operand.tmp 48))]), 22, none⟩, 4), (⟨false, some 55, (Go.Op.buildSlice 22 1 #[(0, (Go.Operand.tmp 54))]), 22, none⟩, 5)]), (2, [(⟨false, some 46, (Go.Op.call { callee := (Go.Callee.value (Go.Operand.func 13)), args := #[(Go.Operand.tmp 45)], argTypes := #[22] }), 22, none⟩, 4), (⟨false, some 55, (Go.Op.buildSlice 22 1 #[(0, (Go.Operand.tmp 54))]), 22, none⟩, 6)]), (3, [(⟨false, some 46, (Go.Op.call { callee := (Go.Callee.value (Go.Operand.func 13)), args := #[(Go.Operand.tmp 45)], argTypes := #[22] }), 22, none⟩, 5), (⟨false, some 49, (Go.Op.buildSlice 22 1 #[(0, (Go.Operand.tmp 48))]), 22, none⟩, 6)]), (4, [(⟨false, some 50, (Go.Op.call { callee := (Go.Callee.builtin Go.Builtin.append), args := #[(Go.Operand.tmp 46), (Go.Operand.tmp 49)], argTypes := #[22, 22] }), 22, none⟩, 7), (⟨false, some 55, (Go.Op.buildSlice 22 1 #[(0, (Go.Operand.tmp 54))]), 22, none⟩, 8)]), (5, [(⟨false, some 49, (Go.Op.buildSlice 22 1 #[(0, (Go.Operand.tmp 48))]), 22, none⟩, 8)]), (6, [(⟨false, some 46, (Go.Op.call { callee := (Go.Callee.value (Go.Operand.func 13)), args := #[(Go.Operand.tmp 45)], argTypes := #[22] }), 22, none⟩, 8)]), (7, [(⟨false, some 52, (Go.Op.call { callee := (Go.Callee.value (Go.Operand.func 13)), args := #[(Go.Operand.tmp 51)], argTypes := #[22] }), 22, none⟩, 9), (⟨false, some 55, (Go.Op.buildSlice 22 1 #[(0, (Go.Operand.tmp 54))]), 22, none⟩, 10)]), (8, [(⟨false, some 50, (Go.Op.call { callee := (Go.Callee.builtin Go.Builtin.append), args := #[(Go.Operand.tmp 46), (Go.Operand.tmp 49)], argTypes := #[22, 22] }), 22, none⟩, 10)]), (9, [(⟨false, some 55, (Go.Op.buildSlice 22 1 #[(0, (Go.Operand.tmp 54))]), 22, none⟩, 11)]), (10, [(⟨false, some 52, (Go.Op.call { callee := (Go.Callee.value (Go.Operand.func 13)), args := #[(Go.Operand.tmp 51)], argTypes := #[22] }), 22, none⟩, 11)])]
            #[true, true, true, true, true, true, true, true, true, true, true, false, false, false, false, false, false, false] 11 [.one (11, false, some 56), .one (12, false, some 57), .one (13, true, some 44), .one (14, true, some 58), .one (15, true, some 59), .one (16, true, some 11), .one (17, true, some 12)]
            [.one ⟨false, some 56, (Go.Op.call { callee := (Go.Callee.builtin Go.Builtin.append), args := #[(Go.Operand.tmp 52), (Go.Operand.tmp 55)], argTypes := #[22, 22] }), 22, none⟩,
    .one ⟨false, some 57, (Go.Op.call { callee := (Go.Callee.value (Go.Operand.func 18)), args := #[(Go.Operand.tmp 50), (Go.Operand.tmp 56)], argTypes := #[22, 22] }), 32, none⟩,
    .one ⟨true, some 44, (Go.Op.move (Go.Operand.tmp 57)), 32, none⟩,
    .one ⟨true, some 58, (Go.Op.extract (Go.Operand.tmp 44) 0), 22, none⟩,
    .one ⟨true, some 59, (Go.Op.extract (Go.Operand.tmp 44) 1), 4, none⟩,
    .one ⟨true, some 11, (Go.Op.assign (Go.Operand.tmp 58)), 22, none⟩,
    .one ⟨true, some 12, (Go.Op.assign (Go.Operand.tmp 59)), 4, none⟩]
            (fun w => Sat w0 w [ownA .u32 23 A7 c8 (Option.getD o6 []), arrA (Value.int .u32) 24 2 g1 l2]) rfl (by kernel_rfl) (List.mem_cons_self) (by kernel_rfl) (by kernel_rfl) (by kernel_rfl) (by kernel_rfl) (S.drew.mask [true, true]) ?_ ⟨⟨?_, ?_, ?_, trivial⟩, ⟨?_, ?_, trivial⟩, ⟨?_, ?_, trivial⟩, ⟨?_, ?_, trivial⟩, ⟨?_, ?_, trivial⟩, ⟨?_, trivial⟩, ⟨?_, trivial⟩, ⟨?_, ?_, trivial⟩, ⟨?_, trivial⟩, ⟨?_, trivial⟩, ⟨?_, trivial⟩, trivial⟩ ?_
          · have S := S.drew
            refine sl_run orc_ok 1 rfl fr fun a fr => ?_
            refine sl_lda orc_ok 0 (fun _ S => Sat.arrAt S 1 rfl) fr rfl rfl rfl rfl rfl rfl rfl rfl rfl rfl rfl rfl rfl rfl rfl rfl rfl rfl hc_1 (Sat.mask S [true, true]) fun a fr => ?_
            refine sl_run orc_ok 1 rfl fr fun a fr => ?_
            refine sl_lda orc_ok 0 (fun _ S => Sat.arrAt S 1 rfl) fr rfl rfl rfl rfl rfl rfl rfl rfl rfl rfl rfl rfl rfl rfl rfl rfl rfl rfl hc_2 (Sat.mask S [true, true]) fun a fr => ?_
            refine sl_end ?_
            exact ⟨rfl, fr.sub ⟨rfl, rfl, rfl, rfl, rfl, rfl, rfl, rfl, rfl, rfl, rfl, rfl, rfl, rfl, rfl, rfl, rfl, rfl, rfl, rfl, rfl, rfl, rfl, rfl, rfl, rfl, rfl, rfl, rfl, rfl, rfl, rfl, rfl, rfl, rfl, rfl, rfl, rfl, rfl, rfl, rfl, trivial⟩, S⟩
          · intro a w hS hI
            obtain ⟨fr, S⟩ := hI
            refine sl_call fr rfl rfl rfl rfl rfl en13 (twin_call (Rk.at rk0 S) hc_3 S) ?_
            rintro _ w ⟨A62, c63, rfl, hv, S⟩
            refine ⟨_, rfl, hv, (Sat.mask S [false, true, true]), fun a fr => ?_⟩
            refine sl_end ?_
            exact ⟨rfl, A62, c63, fr.sub ⟨rfl, rfl, rfl, rfl, rfl, rfl, rfl, rfl, rfl, rfl, rfl, rfl, rfl, rfl, rfl, rfl, rfl, rfl, rfl, rfl, rfl, rfl, rfl, rfl, rfl, rfl, rfl, rfl, rfl, rfl, rfl, rfl, rfl, rfl, rfl, rfl, rfl, rfl, rfl, rfl, rfl, rfl, trivial⟩, S⟩
          · intro a w hS hI
            obtain ⟨fr, S⟩ := hI
            refine sl_lit (xs := [(List.getD l2 (Int.toNat (0 : Int)) 0)]) orc_ok lit22 fr rfl rfl rfl rfl rfl ⟨rfl, rfl, trivial⟩ rfl rfl S ?_
            intro w A64 c65 S
            refine ⟨(Sat.mask S [false, true, true]), fun a fr => ?_⟩
            refine sl_end ?_
            exact ⟨rfl, A64, c65, fr.sub ⟨rfl, rfl, rfl, rfl, rfl, rfl, rfl, rfl, rfl, rfl, rfl, rfl, rfl, rfl, rfl, rfl, rfl, rfl, rfl, rfl, rfl, rfl, rfl, rfl, rfl, rfl, rfl, rfl, rfl, rfl, rfl, rfl, rfl, rfl, rfl, rfl, rfl, rfl, rfl, rfl, rfl, rfl, trivial⟩, S⟩
          · intro a w hS hI
            obtain ⟨fr, S⟩ := hI
            refine sl_lit (xs := [(List.getD l2 (Int.toNat (1 : Int)) 0)]) orc_ok lit22 fr rfl rfl rfl rfl rfl ⟨rfl, rfl, trivial⟩ rfl rfl S ?_
            intro w A66 c67 S
            refine ⟨(Sat.mask S [false, true, true]), fun a fr => ?_⟩
            refine sl_end ?_
            exact ⟨rfl, A66, c67, fr.sub ⟨rfl, rfl, rfl, rfl, rfl, rfl, rfl, rfl, rfl, rfl, rfl, rfl, rfl, rfl, rfl, rfl, rfl, rfl, rfl, rfl, rfl, rfl, rfl, rfl, rfl, rfl, rfl, rfl, rfl, rfl, rfl, rfl, rfl, rfl, rfl, rfl, rfl, rfl, rfl, rfl, rfl, rfl, trivial⟩, S⟩
          · intro a w hS hI
            obtain ⟨A11, c12, fr, S⟩ := hI
            refine sl_lit (xs := [(List.getD l2 (Int.toNat (0 : Int)) 0)]) orc_ok lit22 fr rfl rfl rfl rfl rfl ⟨rfl, rfl, trivial⟩ rfl rfl S ?_
            intro w A68 c69 S
            refine ⟨(Sat.mask S [false, false, true, true]), fun a fr => ?_⟩
            refine sl_end ?_
            exact ⟨rfl, A68, c69, A11, c12, fr.sub ⟨rfl, rfl, rfl, rfl, rfl, rfl, rfl, rfl, rfl, rfl, rfl, rfl, rfl, rfl, rfl, rfl, rfl, rfl, rfl, rfl, rfl, rfl, rfl, rfl, rfl, rfl, rfl, rfl, rfl, rfl, rfl, rfl, rfl, rfl, rfl, rfl, rfl, rfl, rfl, rfl, rfl, rfl, rfl, trivial⟩, S⟩
          · intro a w hS hI
            obtain ⟨A11, c12, fr, S⟩ := hI
            refine sl_lit (xs := [(List.getD l2 (Int.toNat (1 : Int)) 0)]) orc_ok lit22 fr rfl rfl rfl rfl rfl ⟨rfl, rfl, trivial⟩ rfl rfl S ?_
            intro w A70 c71 S
            refine ⟨(Sat.mask S [false, false, true, true]), fun a fr => ?_⟩
            refine sl_end ?_
            exact ⟨rfl, A70, c71, A11, c12, fr.sub ⟨rfl, rfl, rfl, rfl, rfl, rfl, rfl, rfl, rfl, rfl, rfl, rfl, rfl, rfl, rfl, rfl, rfl, rfl, rfl, rfl, rfl, rfl, rfl, rfl, rfl, rfl, rfl, rfl, rfl, rfl, rfl, rfl, rfl, rfl, rfl, rfl, rfl, rfl, rfl, rfl, rfl, rfl, rfl, trivial⟩, S⟩
          · intro a w hS hI
            obtain ⟨A21, c22, fr, S⟩ := hI
            refine sl_call fr rfl rfl rfl rfl rfl en13 (twin_call (Rk.at rk0 S) hc_3 S) ?_
            rintro _ w ⟨A72, c73, rfl, hv, S⟩
            refine ⟨_, rfl, hv, (Sat.mask S [false, false, true, true]), fun a fr => ?_⟩
            refine sl_end ?_
            have S : Sat w0 _ [arrA (Value.int .u32) 24 2 g1 l2, twA A72 c73 l0, ownA .u32 23 A21 c22 [(List.getD l2 (Int.toNat (0 : Int)) 0)], ownA .u32 23 A7 c8 (Option.getD o6 [])] := S.frontAt 3 rfl
            have S : Sat w0 _ [ownA .u32 23 A7 c8 (Option.getD o6 []), arrA (Value.int .u32) 24 2 g1 l2, twA A72 c73 l0, ownA .u32 23 A21 c22 [(List.getD l2 (Int.toNat (0 : Int)) 0)]] := S.frontAt 3 rfl
            have S : Sat w0 _ [twA A72 c73 l0, ownA .u32 23 A7 c8 (Option.getD o6 []), arrA (Value.int .u32) 24 2 g1 l2, ownA .u32 23 A21 c22 [(List.getD l2 (Int.toNat (0 : Int)) 0)]] := S.frontAt 2 rfl
            have S : Sat w0 _ [ownA .u32 23 A21 c22 [(List.getD l2 (Int.toNat (0 : Int)) 0)], twA A72 c73 l0, ownA .u32 23 A7 c8 (Option.getD o6 []), arrA (Value.int .u32) 24 2 g1 l2] := S.frontAt 3 rfl
            exact ⟨rfl, A21, c22, A72, c73, fr.sub ⟨rfl, rfl, rfl, rfl, rfl, rfl, rfl, rfl, rfl, rfl, rfl, rfl, rfl, rfl, rfl, rfl, rfl, rfl, rfl, rfl, rfl, rfl, rfl, rfl, rfl, rfl, rfl, rfl, rfl, rfl, rfl, rfl, rfl, rfl, rfl, rfl, rfl, rfl, rfl, rfl, rfl, rfl, rfl, trivial⟩, S⟩
          · intro a w hS hI
            obtain ⟨A21, c22, fr, S⟩ := hI
            refine sl_lit (xs := [(List.getD l2 (Int.toNat (1 : Int)) 0)]) orc_ok lit22 fr rfl rfl rfl rfl rfl ⟨rfl, rfl, trivial⟩ rfl rfl S ?_
            intro w A74 c75 S
            refine ⟨(Sat.mask S [false, false, true, true]), fun a fr => ?_⟩
            refine sl_end ?_
            exact ⟨rfl, A74, c75, A21, c22, fr.sub ⟨rfl, rfl, rfl, rfl, rfl, rfl, rfl, rfl, rfl, rfl, rfl, rfl, rfl, rfl, rfl, rfl, rfl, rfl, rfl, rfl, rfl, rfl, rfl, rfl, rfl, rfl, rfl, rfl, rfl, rfl, rfl, rfl, rfl, rfl, rfl, rfl, rfl, rfl, rfl, rfl, rfl, rfl, rfl, trivial⟩, S⟩
          · intro a w hS hI
            obtain ⟨A23, c24, fr, S⟩ := hI
            refine sl_call fr rfl rfl rfl rfl rfl en13 (twin_call (Rk.at rk0 S) hc_3 S) ?_
            rintro _ w ⟨A76, c77, rfl, hv, S⟩
            refine ⟨_, rfl, hv, (Sat.mask S [false, false, true, true]), fun a fr => ?_⟩
            refine sl_end ?_
            have S : Sat w0 _ [arrA (Value.int .u32) 24 2 g1 l2, twA A76 c77 l0, ownA .u32 23 A23 c24 [(List.getD l2 (Int.toNat (1 : Int)) 0)], ownA .u32 23 A7 c8 (Option.getD o6 [])] := S.frontAt 3 rfl
            have S : Sat w0 _ [ownA .u32 23 A7 c8 (Option.getD o6 []), arrA (Value.int .u32) 24 2 g1 l2, twA A76 c77 l0, ownA .u32 23 A23 c24 [(List.getD l2 (Int.toNat (1 : Int)) 0)]] := S.frontAt 3 rfl
            have S : Sat w0 _ [twA A76 c77 l0, ownA .u32 23 A7 c8 (Option.getD o6 []), arrA (Value.int .u32) 24 2 g1 l2, ownA .u32 23 A23 c24 [(List.getD l2 (Int.toNat (1 : Int)) 0)]] := S.frontAt 2 rfl
            have S : Sat w0 _ [ownA .u32 23 A23 c24 [(List.getD l2 (Int.toNat (1 : Int)) 0)], twA A76 c77 l0, ownA .u32 23 A7 c8 (Option.getD o6 []), arrA (Value.int .u32) 24 2 g1 l2] := S.frontAt 3 rfl
            exact ⟨rfl, A23, c24, A76, c77, fr.sub ⟨rfl, rfl, rfl, rfl, rfl, rfl, rfl, rfl, rfl, rfl, rfl, rfl, rfl, rfl, rfl, rfl, rfl, rfl, rfl, rfl, rfl, rfl, rfl, rfl, rfl, rfl, rfl, rfl, rfl, rfl, rfl, rfl, rfl, rfl, rfl, rfl, rfl, rfl, rfl, rfl, rfl, rfl, rfl, trivial⟩, S⟩
          · intro a w hS hI
            obtain ⟨A23, c24, fr, S⟩ := hI
            refine sl_lit (xs := [(List.getD l2 (Int.toNat (0 : Int)) 0)]) orc_ok lit22 fr rfl rfl rfl rfl rfl ⟨rfl, rfl, trivial⟩ rfl rfl S ?_
            intro w A78 c79 S
            refine ⟨(Sat.mask S [false, false, true, true]), fun a fr => ?_⟩
            refine sl_end ?_
            have S : Sat w0 _ [arrA (Value.int .u32) 24 2 g1 l2, ownA .u32 23 A78 c79 [(List.getD l2 (Int.toNat (0 : Int)) 0)], ownA .u32 23 A23 c24 [(List.getD l2 (Int.toNat (1 : Int)) 0)], ownA .u32 23 A7 c8 (Option.getD o6 [])] := S.frontAt 3 rfl
            have S : Sat w0 _ [ownA .u32 23 A7 c8 (Option.getD o6 []), arrA (Value.int .u32) 24 2 g1 l2, ownA .u32 23 A78 c79 [(List.getD l2 (Int.toNat (0 : Int)) 0)], ownA .u32 23 A23 c24 [(List.getD l2 (Int.toNat (1 : Int)) 0)]] := S.frontAt 3 rfl
            have S : Sat w0 _ [ownA .u32 23 A78 c79 [(List.getD l2 (Int.toNat (0 : Int)) 0)], ownA .u32 23 A7 c8 (Option.getD o6 []), arrA (Value.int .u32) 24 2 g1 l2, ownA .u32 23 A23 c24 [(List.getD l2 (Int.toNat (1 : Int)) 0)]] := S.frontAt 2 rfl
            have S : Sat w0 _ [ownA .u32 23 A23 c24 [(List.getD l2 (Int.toNat (1 : Int)) 0)], ownA .u32 23 A78 c79 [(List.getD l2 (Int.toNat (0 : Int)) 0)], ownA .u32 23 A7 c8 (Option.getD o6 []), arrA (Value.int .u32) 24 2 g1 l2] := S.frontAt 3 rfl
            exact ⟨rfl, A23, c24, A78, c79, fr.sub ⟨rfl, rfl, rfl, rfl, rfl, rfl, rfl, rfl, rfl, rfl, rfl, rfl, rfl, rfl, rfl, rfl, rfl, rfl, rfl, rfl, rfl, rfl, rfl, rfl, rfl, rfl, rfl, rfl, rfl, rfl, rfl, rfl, rfl, rfl, rfl, rfl, rfl, rfl, rfl, rfl, rfl, rfl, rfl, trivial⟩, S⟩
          · intro a w hS hI
            obtain ⟨A13, c14, A11, c12, fr, S⟩ := hI
            have S : Sat w0 _ [twA A11 c12 l0, ownA .u32 23 A13 c14 [(List.getD l2 (Int.toNat (0 : Int)) 0)], ownA .u32 23 A7 c8 (Option.getD o6 []), arrA (Value.int .u32) 24 2 g1 l2] := S.frontAt 1 rfl
            have S := S.twnOwn
            have hy := (Sat.ownAt S 1 rfl)
            refine sl_app lit22 fr rfl rfl rfl rfl rfl rfl rfl rfl rfl hy hc_4 S ?_
            intro w A80 c81 S
            have S : Sat w0 _ [ownA .u32 23 A80 c81 (l0 ++ [(List.getD l2 (Int.toNat (0 : Int)) 0)]), ownA .u32 23 A7 c8 (Option.getD o6 []), arrA (Value.int .u32) 24 2 g1 l2] := S.mask [true, false, true, true]
            refine ⟨(Sat.mask S [false, true, true]), fun a fr => ?_⟩
            refine sl_end ?_
            exact ⟨rfl, A80, c81, fr.sub ⟨rfl, rfl, rfl, rfl, rfl, rfl, rfl, rfl, rfl, rfl, rfl, rfl, rfl, rfl, rfl, rfl, rfl, rfl, rfl, rfl, rfl, rfl, rfl, rfl, rfl, rfl, rfl, rfl, rfl, rfl, rfl, rfl, rfl, rfl, rfl, rfl, rfl, rfl, rfl, rfl, rfl, rfl, trivial⟩, S⟩
          · intro a w hS hI
            obtain ⟨A13, c14, A11, c12, fr, S⟩ := hI
            refine sl_lit (xs := [(List.getD l2 (Int.toNat (1 : Int)) 0)]) orc_ok lit22 fr rfl rfl rfl rfl rfl ⟨rfl, rfl, trivial⟩ rfl rfl S ?_
            intro w A82 c83 S
            refine ⟨(Sat.mask S [false, false, false, true, true]), fun a fr => ?_⟩
            refine sl_end ?_
            exact ⟨rfl, A82, c83, A13, c14, A11, c12, fr.sub ⟨rfl, rfl, rfl, rfl, rfl, rfl, rfl, rfl, rfl, rfl, rfl, rfl, rfl, rfl, rfl, rfl, rfl, rfl, rfl, rfl, rfl, rfl, rfl, rfl, rfl, rfl, rfl, rfl, rfl, rfl, rfl, rfl, rfl, rfl, rfl, rfl, rfl, rfl, rfl, rfl, rfl, rfl, rfl, rfl, trivial⟩, S⟩
          · intro a w hS hI
            obtain ⟨A27, c28, A25, c26, fr, S⟩ := hI
            refine sl_lit (xs := [(List.getD l2 (Int.toNat (0 : Int)) 0)]) orc_ok lit22 fr rfl rfl rfl rfl rfl ⟨rfl, rfl, trivial⟩ rfl rfl S ?_
            intro w A84 c85 S
            refine ⟨(Sat.mask S [false, false, false, true, true]), fun a fr => ?_⟩
            refine sl_end ?_
            have S : Sat w0 _ [arrA (Value.int .u32) 24 2 g1 l2, ownA .u32 23 A84 c85 [(List.getD l2 (Int.toNat (0 : Int)) 0)], ownA .u32 23 A27 c28 [(List.getD l2 (Int.toNat (1 : Int)) 0)], twA A25 c26 l0, ownA .u32 23 A7 c8 (Option.getD o6 [])] := S.frontAt 4 rfl
            have S : Sat w0 _ [ownA .u32 23 A7 c8 (Option.getD o6 []), arrA (Value.int .u32) 24 2 g1 l2, ownA .u32 23 A84 c85 [(List.getD l2 (Int.toNat (0 : Int)) 0)], ownA .u32 23 A27 c28 [(List.getD l2 (Int.toNat (1 : Int)) 0)], twA A25 c26 l0] := S.frontAt 4 rfl
            have S : Sat w0 _ [twA A25 c26 l0, ownA .u32 23 A7 c8 (Option.getD o6 []), arrA (Value.int .u32) 24 2 g1 l2, ownA .u32 23 A84 c85 [(List.getD l2 (Int.toNat (0 : Int)) 0)], ownA .u32 23 A27 c28 [(List.getD l2 (Int.toNat (1 : Int)) 0)]] := S.frontAt 4 rfl
            have S : Sat w0 _ [ownA .u32 23 A84 c85 [(List.getD l2 (Int.toNat (0 : Int)) 0)], twA A25 c26 l0, ownA .u32 23 A7 c8 (Option.getD o6 []), arrA (Value.int .u32) 24 2 g1 l2, ownA .u32 23 A27 c28 [(List.getD l2 (Int.toNat (1 : Int)) 0)]] := S.frontAt 3 rfl
            have S : Sat w0 _ [ownA .u32 23 A27 c28 [(List.getD l2 (Int.toNat (1 : Int)) 0)], ownA .u32 23 A84 c85 [(List.getD l2 (Int.toNat (0 : Int)) 0)], twA A25 c26 l0, ownA .u32 23 A7 c8 (Option.getD o6 []), arrA (Value.int .u32) 24 2 g1 l2] := S.frontAt 4 rfl
            exact ⟨rfl, A27, c28, A84, c85, A25, c26, fr.sub ⟨rfl, rfl, rfl, rfl, rfl, rfl, rfl, rfl, rfl, rfl, rfl, rfl, rfl, rfl, rfl, rfl, rfl, rfl, rfl, rfl, rfl, rfl, rfl, rfl, rfl, rfl, rfl, rfl, rfl, rfl, rfl, rfl, rfl, rfl, rfl, rfl, rfl, rfl, rfl, rfl, rfl, rfl, rfl, rfl, trivial⟩, S⟩
          · intro a w hS hI
            obtain ⟨A31, c32, A29, c30, fr, S⟩ := hI
            refine sl_call fr rfl rfl rfl rfl rfl en13 (twin_call (Rk.at rk0 S) hc_3 S) ?_
            rintro _ w ⟨A86, c87, rfl, hv, S⟩
            refine ⟨_, rfl, hv, (Sat.mask S [false, false, false, true, true]), fun a fr => ?_⟩
            refine sl_end ?_
            have S : Sat w0 _ [arrA (Value.int .u32) 24 2 g1 l2, twA A86 c87 l0, ownA .u32 23 A31 c32 [(List.getD l2 (Int.toNat (1 : Int)) 0)], ownA .u32 23 A29 c30 [(List.getD l2 (Int.toNat (0 : Int)) 0)], ownA .u32 23 A7 c8 (Option.getD o6 [])] := S.frontAt 4 rfl
            have S : Sat w0 _ [ownA .u32 23 A7 c8 (Option.getD o6 []), arrA (Value.int .u32) 24 2 g1 l2, twA A86 c87 l0, ownA .u32 23 A31 c32 [(List.getD l2 (Int.toNat (1 : Int)) 0)], ownA .u32 23 A29 c30 [(List.getD l2 (Int.toNat (0 : Int)) 0)]] := S.frontAt 4 rfl
            have S : Sat w0 _ [twA A86 c87 l0, ownA .u32 23 A7 c8 (Option.getD o6 []), arrA (Value.int .u32) 24 2 g1 l2, ownA .u32 23 A31 c32 [(List.getD l2 (Int.toNat (1 : Int)) 0)], ownA .u32 23 A29 c30 [(List.getD l2 (Int.toNat (0 : Int)) 0)]] := S.frontAt 2 rfl
            have S : Sat w0 _ [ownA .u32 23 A29 c30 [(List.getD l2 (Int.toNat (0 : Int)) 0)], twA A86 c87 l0, ownA .u32 23 A7 c8 (Option.getD o6 []), arrA (Value.int .u32) 24 2 g1 l2, ownA .u32 23 A31 c32 [(List.getD l2 (Int.toNat (1 : Int)) 0)]] := S.frontAt 4 rfl
            have S : Sat w0 _ [ownA .u32 23 A31 c32 [(List.getD l2 (Int.toNat (1 : Int)) 0)], ownA .u32 23 A29 c30 [(List.getD l2 (Int.toNat (0 : Int)) 0)], twA A86 c87 l0, ownA .u32 23 A7 c8 (Option.getD o6 []), arrA (Value.int .u32) 24 2 g1 l2] := S.frontAt 4 rfl
            exact ⟨rfl, A31, c32, A29, c30, A86, c87, fr.sub ⟨rfl, rfl, rfl, rfl, rfl, rfl, rfl, rfl, rfl, rfl, rfl, rfl, rfl, rfl, rfl, rfl, rfl, rfl, rfl, rfl, rfl, rfl, rfl, rfl, rfl, rfl, rfl, rfl, rfl, rfl, rfl, rfl, rfl, rfl, rfl, rfl, rfl, rfl, rfl, rfl, rfl, rfl, rfl, rfl, trivial⟩, S⟩
          · intro a w hS hI
            obtain ⟨A15, c16, fr, S⟩ := hI
            refine sl_call fr rfl rfl rfl rfl rfl en13 (twin_call (Rk.at rk1 S) hc_5 S) ?_
            rintro _ w ⟨A88, c89, rfl, hv, S⟩
            refine ⟨_, rfl, hv, (Sat.mask S [false, false, true, true]), fun a fr => ?_⟩
            refine sl_end ?_
            exact ⟨rfl, A88, c89, A15, c16, fr.sub ⟨rfl, rfl, rfl, rfl, rfl, rfl, rfl, rfl, rfl, rfl, rfl, rfl, rfl, rfl, rfl, rfl, rfl, rfl, rfl, rfl, rfl, rfl, rfl, rfl, rfl, rfl, rfl, rfl, rfl, rfl, rfl, rfl, rfl, rfl, rfl, rfl, rfl, rfl, rfl, rfl, rfl, rfl, rfl, trivial⟩, S⟩
          · intro a w hS hI
            obtain ⟨A15, c16, fr, S⟩ := hI
            refine sl_lit (xs := [(List.getD l2 (Int.toNat (1 : Int)) 0)]) orc_ok lit22 fr rfl rfl rfl rfl rfl ⟨rfl, rfl, trivial⟩ rfl rfl S ?_
            intro w A90 c91 S
            refine ⟨(Sat.mask S [false, false, true, true]), fun a fr => ?_⟩
            refine sl_end ?_
            exact ⟨rfl, A90, c91, A15, c16, fr.sub ⟨rfl, rfl, rfl, rfl, rfl, rfl, rfl, rfl, rfl, rfl, rfl, rfl, rfl, rfl, rfl, rfl, rfl, rfl, rfl, rfl, rfl, rfl, rfl, rfl, rfl, rfl, rfl, rfl, rfl, rfl, rfl, rfl, rfl, rfl, rfl, rfl, rfl, rfl, rfl, rfl, rfl, rfl, rfl, trivial⟩, S⟩
          · intro a w hS hI
            obtain ⟨A37, c38, A35, c36, A33, c34, fr, S⟩ := hI
            have S : Sat w0 _ [twA A33 c34 l0, ownA .u32 23 A37 c38 [(List.getD l2 (Int.toNat (1 : Int)) 0)], ownA .u32 23 A35 c36 [(List.getD l2 (Int.toNat (0 : Int)) 0)], ownA .u32 23 A7 c8 (Option.getD o6 []), arrA (Value.int .u32) 24 2 g1 l2] := S.frontAt 2 rfl
            have S := S.twnOwn
            have hy := (Sat.ownAt S 2 rfl)
            refine sl_app lit22 fr rfl rfl rfl rfl rfl rfl rfl rfl rfl hy hc_4 S ?_
            intro w A92 c93 S
            have S : Sat w0 _ [ownA .u32 23 A92 c93 (l0 ++ [(List.getD l2 (Int.toNat (0 : Int)) 0)]), ownA .u32 23 A37 c38 [(List.getD l2 (Int.toNat (1 : Int)) 0)], ownA .u32 23 A7 c8 (Option.getD o6 []), arrA (Value.int .u32) 24 2 g1 l2] := S.mask [true, true, false, true, true]
            refine ⟨(Sat.mask S [false, false, true, true]), fun a fr => ?_⟩
            refine sl_end ?_
            have S : Sat w0 _ [arrA (Value.int .u32) 24 2 g1 l2, ownA .u32 23 A92 c93 (l0 ++ [(List.getD l2 (Int.toNat (0 : Int)) 0)]), ownA .u32 23 A37 c38 [(List.getD l2 (Int.toNat (1 : Int)) 0)], ownA .u32 23 A7 c8 (Option.getD o6 [])] := S.frontAt 3 rfl
            have S : Sat w0 _ [ownA .u32 23 A7 c8 (Option.getD o6 []), arrA (Value.int .u32) 24 2 g1 l2, ownA .u32 23 A92 c93 (l0 ++ [(List.getD l2 (Int.toNat (0 : Int)) 0)]), ownA .u32 23 A37 c38 [(List.getD l2 (Int.toNat (1 : Int)) 0)]] := S.frontAt 3 rfl
            have S : Sat w0 _ [ownA .u32 23 A92 c93 (l0 ++ [(List.getD l2 (Int.toNat (0 : Int)) 0)]), ownA .u32 23 A7 c8 (Option.getD o6 []), arrA (Value.int .u32) 24 2 g1 l2, ownA .u32 23 A37 c38 [(List.getD l2 (Int.toNat (1 : Int)) 0)]] := S.frontAt 2 rfl
            have S : Sat w0 _ [ownA .u32 23 A37 c38 [(List.getD l2 (Int.toNat (1 : Int)) 0)], ownA .u32 23 A92 c93 (l0 ++ [(List.getD l2 (Int.toNat (0 : Int)) 0)]), ownA .u32 23 A7 c8 (Option.getD o6 []), arrA (Value.int .u32) 24 2 g1 l2] := S.frontAt 3 rfl
            exact ⟨rfl, A37, c38, A92, c93, fr.sub ⟨rfl, rfl, rfl, rfl, rfl, rfl, rfl, rfl, rfl, rfl, rfl, rfl, rfl, rfl, rfl, rfl, rfl, rfl, rfl, rfl, rfl, rfl, rfl, rfl, rfl, rfl, rfl, rfl, rfl, rfl, rfl, rfl, rfl, rfl, rfl, rfl, rfl, rfl, rfl, rfl, rfl, rfl, rfl, trivial⟩, S⟩
          · intro a w hS hI
            obtain ⟨A17, c18, A15, c16, fr, S⟩ := hI
            refine sl_lit (xs := [(List.getD l2 (Int.toNat (1 : Int)) 0)]) orc_ok lit22 fr rfl rfl rfl rfl rfl ⟨rfl, rfl, trivial⟩ rfl rfl S ?_
            intro w A94 c95 S
            refine ⟨(Sat.mask S [false, false, false, true, true]), fun a fr => ?_⟩
            refine sl_end ?_
            exact ⟨rfl, A94, c95, A17, c18, A15, c16, fr.sub ⟨rfl, rfl, rfl, rfl, rfl, rfl, rfl, rfl, rfl, rfl, rfl, rfl, rfl, rfl, rfl, rfl, rfl, rfl, rfl, rfl, rfl, rfl, rfl, rfl, rfl, rfl, rfl, rfl, rfl, rfl, rfl, rfl, rfl, rfl, rfl, rfl, rfl, rfl, rfl, rfl, rfl, rfl, rfl, rfl, trivial⟩, S⟩
          · intro a w hS hI
            obtain ⟨A45, c46, A43, c44, fr, S⟩ := hI
            refine sl_call fr rfl rfl rfl rfl rfl en13 (twin_call (Rk.at rk1 S) hc_5 S) ?_
            rintro _ w ⟨A96, c97, rfl, hv, S⟩
            refine ⟨_, rfl, hv, (Sat.mask S [false, false, false, true, true]), fun a fr => ?_⟩
            refine sl_end ?_
            have S : Sat w0 _ [arrA (Value.int .u32) 24 2 g1 l2, twA A96 c97 l1, ownA .u32 23 A45 c46 [(List.getD l2 (Int.toNat (1 : Int)) 0)], ownA .u32 23 A43 c44 (l0 ++ [(List.getD l2 (Int.toNat (0 : Int)) 0)]), ownA .u32 23 A7 c8 (Option.getD o6 [])] := S.frontAt 4 rfl
            have S : Sat w0 _ [ownA .u32 23 A7 c8 (Option.getD o6 []), arrA (Value.int .u32) 24 2 g1 l2, twA A96 c97 l1, ownA .u32 23 A45 c46 [(List.getD l2 (Int.toNat (1 : Int)) 0)], ownA .u32 23 A43 c44 (l0 ++ [(List.getD l2 (Int.toNat (0 : Int)) 0)])] := S.frontAt 4 rfl
            have S : Sat w0 _ [ownA .u32 23 A43 c44 (l0 ++ [(List.getD l2 (Int.toNat (0 : Int)) 0)]), ownA .u32 23 A7 c8 (Option.getD o6 []), arrA (Value.int .u32) 24 2 g1 l2, twA A96 c97 l1, ownA .u32 23 A45 c46 [(List.getD l2 (Int.toNat (1 : Int)) 0)]] := S.frontAt 4 rfl
            have S : Sat w0 _ [twA A96 c97 l1, ownA .u32 23 A43 c44 (l0 ++ [(List.getD l2 (Int.toNat (0 : Int)) 0)]), ownA .u32 23 A7 c8 (Option.getD o6 []), arrA (Value.int .u32) 24 2 g1 l2, ownA .u32 23 A45 c46 [(List.getD l2 (Int.toNat (1 : Int)) 0)]] := S.frontAt 3 rfl
            have S : Sat w0 _ [ownA .u32 23 A45 c46 [(List.getD l2 (Int.toNat (1 : Int)) 0)], twA A96 c97 l1, ownA .u32 23 A43 c44 (l0 ++ [(List.getD l2 (Int.toNat (0 : Int)) 0)]), ownA .u32 23 A7 c8 (Option.getD o6 []), arrA (Value.int .u32) 24 2 g1 l2] := S.frontAt 4 rfl
            exact ⟨rfl, A45, c46, A96, c97, A43, c44, fr.sub ⟨rfl, rfl, rfl, rfl, rfl, rfl, rfl, rfl, rfl, rfl, rfl, rfl, rfl, rfl, rfl, rfl, rfl, rfl, rfl, rfl, rfl, rfl, rfl, rfl, rfl, rfl, rfl, rfl, rfl, rfl, rfl, rfl, rfl, rfl, rfl, rfl, rfl, rfl, rfl, rfl, rfl, rfl, rfl, rfl, trivial⟩, S⟩
          · intro a w hS hI
            obtain ⟨A19, c20, A17, c18, A15, c16, fr, S⟩ := hI
            obtain ⟨hc, h⟩ := ifs h
            have S : Sat w0 _ [twA A17 c18 l1, ownA .u32 23 A19 c20 [(List.getD l2 (Int.toNat (1 : Int)) 0)], ownA .u32 23 A15 c16 (l0 ++ [(List.getD l2 (Int.toNat (0 : Int)) 0)]), ownA .u32 23 A7 c8 (Option.getD o6 []), arrA (Value.int .u32) 24 2 g1 l2] := S.frontAt 1 rfl
            have S := S.twnOwn
            have hy := (Sat.ownAt S 1 rfl)
            refine sl_app lit22 fr rfl rfl rfl rfl rfl rfl rfl rfl rfl hy hc S ?_
            intro w A57 c58 S
            have S : Sat w0 _ [ownA .u32 23 A57 c58 (l1 ++ [(List.getD l2 (Int.toNat (1 : Int)) 0)]), ownA .u32 23 A15 c16 (l0 ++ [(List.getD l2 (Int.toNat (0 : Int)) 0)]), ownA .u32 23 A7 c8 (Option.getD o6 []), arrA (Value.int .u32) 24 2 g1 l2] := S.mask [true, false, true, true, true]
            refine ⟨(Sat.mask S [false, false, true, true]), fun a fr => ?_⟩
            obtain ⟨hc, h⟩ := ifs h
            obtain ⟨o59, hx, h⟩ := lt_h h
            have H := order_call (A := A15) (c := c16) (l := (l0 ++ [(List.getD l2 (Int.toNat (0 : Int)) 0)])) (A1 := A57) (c1 := c58) (l1 := (l1 ++ [(List.getD l2 (Int.toNat (1 : Int)) 0)])) (Sat.ownAt S 1 rfl) (Sat.ownAt S 0 rfl) (fr.slice (d := 50) rfl) (fr.slice (d := 56) rfl) hc S
            rw [hx] at H
            refine sl_call fr rfl rfl rfl rfl rfl en18 H ?_
            clear H
            rintro _ w ⟨A60, c61, rfl, hv, S⟩
            refine ⟨_, rfl, hv, (Sat.mask S [false, false, false, true, true]), fun a fr => ?_⟩
            refine sl_run orc_ok 5 rfl fr fun a fr => ?_
            refine sl_end ?_
            refine then_n ?_
            refine wp_seq ?_
            refine wp_region_lit ?_
            refine wl_run orc_ok 3 rfl fr fun a fr => ?_
            refine wl_split 62 fr rfl h (fun fr h => ?_) (fun fr h => ?_)
            · refine wl_run orc_ok 3 rfl fr fun a fr => ?_
              refine wl_split 65 fr rfl h (fun fr h => ?_) (fun fr h => ?_)
              · refine wl_run orc_ok 6 rfl fr fun a fr => ?_
                refine wpList_nil ?_
                refine then_n ?_
                refine wp_ret ?_
                injection h with h
                subst h
                refine ret1 fr rfl rfl ?_
                exact ⟨rfl, fr.vok (d := 6) rfl, S.mask [false, false, false, false, false]⟩
              · refine wl_run orc_ok 6 rfl fr fun a fr => ?_
                refine wpList_nil ?_
                refine then_n ?_
                refine wp_ret ?_
                injection h with h
                subst h
                refine ret1 fr rfl rfl ?_
                exact ⟨rfl, fr.vok (d := 6) rfl, S.mask [false, false, false, false, false]⟩
            · cases h
  exact (key w rfl (Sat.start w)).mono fun e w' ⟨h1, h2, h3⟩ => ⟨h1, h2, S.new h3.below⟩
end Go.Proofs.Ytjdholnlbhkmeaa.Pl
