/- Walks over the program's functions, printed by a program of this work (wip/tools/shal.py): each call does what the plain function says. -/
import Derived.Test.YtjdholnlbhkmeaaProg
import Derived.Test.YtjdholnlbhkmeaaTx
import Derived.Test.YtjdholnlbhkmeaaPool
import Derived.Test.YtjdholnlbhkmeaaSo
import Derived.Test.YtjdholnlbhkmeaaDRingsWay
namespace Go.Proofs.Ytjdholnlbhkmeaa.Pl
open Go Go.RowKit Sx Base Own

def orc : Orc := ⟨[(4, .bool), (22, .slice 23), (23, .int .u32), (35, .array 3 23)],
  [(23, 1)]⟩
theorem orc_ok : orc.Ok Try.prog := ⟨⟨Try.underlying4, Try.underlying22, Try.underlying23, Try.underlying35, trivial⟩, ⟨by kernel_rfl, trivial⟩⟩
theorem en13 : Enters Try.prog 13 := fun _ _ => by kernel_rfl
theorem en14 : Enters Try.prog 14 := fun _ _ => by kernel_rfl
theorem en17 : Enters Try.prog 17 := fun _ _ => by kernel_rfl
theorem en18 : Enters Try.prog 18 := fun _ _ => by kernel_rfl
theorem en20 : Enters Try.prog 20 := fun _ _ => by kernel_rfl
theorem en23 : Enters Try.prog 23 := fun _ _ => by kernel_rfl
theorem lit22 : RowTy Try.prog 22 23 .u32 := ⟨Try.underlying22, 4, by decide, by kernel_rfl⟩
set_option maxRecDepth 100000 in
set_option maxHeartbeats 4000000 in
theorem SameIds.walk (k : Nat) (A0 : Option Addr) (c0 : Nat) (l0 : List Int) (A1 : Option Addr) (c1 : Nat) (l1 : List Int) {w0 w : World} {R : List Asn} (rk0 : Rk .u32 w A0 l0) (m0 : l0.length ≤ c0 ∧ c0 ≤ maxLen) (rk1 : Rk .u32 w A1 l1) (m1 : l1.length ≤ c1 ∧ c1 ≤ maxLen) (S : Sat w0 w R) {r : Bool} (h : SameIds.f k l0 l1 = some r) :
    Calls Try.prog 20 #[(.slice A0 (List.length l0) c0), (.slice A1 (List.length l1) c1)] w fun e w' => e = .returned (.bool r) ∧ vok (.bool r) = true ∧ Sat w0 w' R := by
  have key : ∀ w0 : World, w0 = w → Sat w0 w [] → Calls Try.prog 20 #[(.slice A0 (List.length l0) c0), (.slice A1 (List.length l1) c1)] w fun e w' => e = .returned (.bool r) ∧ vok (.bool r) = true ∧ Sat w0 w' [] := by
    clear S
    intro w0 hw S
    rw [← hw] at rk0
    rw [← hw] at rk1
    clear hw
    unfold SameIds.f at h
    refine calls_start (N := 26) [(.slice A0 (List.length l0) c0), (.slice A1 (List.length l1) c1)] Try.func20 rfl rfl rfl (vok_c (vok_sl m0) (vok_c (vok_sl m1) rfl)) fun a fr => ?_
    refine wp_seq ?_
    refine wp_region_lit ?_
    refine wl_run orc_ok 1 rfl fr fun a fr => ?_
    refine wpList_nil ?_
    refine then_n ?_
    refine wp_seq ?_
    refine wp_seq ?_
    refine wp_region_lit ?_
    refine wl_run orc_ok 5 rfl fr fun a fr => ?_
    refine wpList_nil ?_
    refine then_n ?_
    refine cw_if fr rfl h (fun h => ?_) (fun h => ?_)
    · refine wp_seq ?_
      refine wp_region_lit ?_
      refine wl_run orc_ok 1 rfl fr fun a fr => ?_
      refine wpList_nil ?_
      refine then_n ?_
      refine wp_ret ?_
      refine then_r ?_
      injection h with h
      subst h
      refine ret1 fr rfl rfl ?_
      exact ⟨rfl, fr.vok (d := 4) rfl, S.mask []⟩
    · refine wp_skip ?_
      refine then_n ?_
      refine wp_seq ?_
      refine wp_seq ?_
      refine wp_region_lit ?_
      refine wl_run orc_ok 1 rfl fr fun a fr => ?_
      refine wpList_nil ?_
      refine then_n ?_
      refine wp_block ?_
      refine cw_loop (fun k1 a w => ∃ x1 : Int, Fr 26 a [(0, (.slice A0 (List.length l0) c0)), (1, (.slice A1 (List.length l1) c1)), (5, (.int .i64 x1))] ∧ Sat w0 w [] ∧ (SameIds.l1 k1 l0 l1 x1) = some r) k ⟨(0 : Int), fr.sub ⟨rfl, rfl, rfl, trivial⟩, S, h⟩ ?_ ?_
      · rintro a w ⟨x1, -, -, h⟩
        simp only [SameIds.l1] at h
        cases h
      · rintro k1 a w ⟨x1, fr, S, h⟩
        rw [SameIds.l1] at h
        refine wp_seq ?_
        refine wp_seq ?_
        refine wp_region_lit ?_
        refine wl_run orc_ok 4 rfl fr fun a fr => ?_
        refine wpList_nil ?_
        refine then_n ?_
        refine cw_if fr rfl h (fun h => ?_) (fun h => ?_)
        · refine wp_skip ?_
          refine then_n ?_
          refine wp_seq ?_
          refine wp_block ?_
          refine wp_seq ?_
          refine wp_region_sl [.one (0, true, some 17), .one (1, true, some 18), .one (2, true, some 19), .one (3, true, some 20), .one (4, true, some 21), .one (5, true, some 22), .one (6, true, some 23), .one (7, true, some 24), .one (8, true, some 25)]
            [.one ⟨true, some 17, (Go.Op.move (Go.Operand.tmp 0)), 22, none⟩,
    .one ⟨true, some 18, (Go.Op.move (Go.Operand.tmp 5)), 3, none⟩,
    .one ⟨true, some 19, (Go.Op.indexAddr 22 (Go.Operand.tmp 17) (Go.Operand.tmp 18)), 0, none⟩,
    .one ⟨true, some 20, (Go.Op.load 23 (Go.Operand.tmp 19)), 23, none⟩,
    .one ⟨true, some 21, (Go.Op.move (Go.Operand.tmp 1)), 22, none⟩,
    .one ⟨true, some 22, (Go.Op.move (Go.Operand.tmp 5)), 3, none⟩,
    .one ⟨true, some 23, (Go.Op.indexAddr 22 (Go.Operand.tmp 21) (Go.Operand.tmp 22)), 0, none⟩,
    .one ⟨true, some 24, (Go.Op.load 23 (Go.Operand.tmp 23)), 23, none⟩,
    .one ⟨true, some 25, (Go.Op.binOp Go.BinOp.neq 23 (Go.Operand.tmp 20) (Go.Operand.tmp 24) 23), 4, none⟩]
            (fun w => Sat w0 w []) rfl (by kernel_rfl) (by kernel_rfl) (S.drew.mask []) ?_
          have S := S.drew
          refine sl_run orc_ok 2 rfl fr fun a fr => ?_
          obtain ⟨hc, h⟩ := ifs h
          refine sl_ld orc_ok (fun _ S => Rk.at rk0 S) fr rfl rfl rfl rfl rfl rfl rfl rfl rfl rfl rfl rfl rfl rfl rfl rfl rfl rfl hc (Sat.mask S []) fun a fr => ?_
          refine sl_run orc_ok 2 rfl fr fun a fr => ?_
          obtain ⟨hc, h⟩ := ifs h
          refine sl_ld orc_ok (fun _ S => Rk.at rk1 S) fr rfl rfl rfl rfl rfl rfl rfl rfl rfl rfl rfl rfl rfl rfl rfl rfl rfl rfl hc (Sat.mask S []) fun a fr => ?_
          refine sl_run orc_ok 1 rfl fr fun a fr => ?_
          refine sl_end ?_
          refine then_n ?_
          refine cw_if fr rfl h (fun h => ?_) (fun h => ?_)
          · refine wp_seq ?_
            refine wp_region_lit ?_
            refine wl_run orc_ok 1 rfl fr fun a fr => ?_
            refine wpList_nil ?_
            refine then_n ?_
            refine wp_ret ?_
            refine blk_r ?_
            refine then_r ?_
            refine then_r ?_
            refine blk_r ?_
            refine then_r ?_
            injection h with h
            subst h
            refine ret1 fr rfl rfl ?_
            exact ⟨rfl, fr.vok (d := 4) rfl, S.mask []⟩
          · refine wp_skip ?_
            refine blk_n ?_
            refine then_n ?_
            refine wp_region_lit ?_
            refine wl_run orc_ok 3 rfl fr fun a fr => ?_
            refine wpList_nil ?_
            exact ⟨(IntKind.wrap .i64 (x1 + (1 : Int))), fr.sub ⟨rfl, rfl, rfl, trivial⟩, S, h⟩
        · refine wp_exit ?_
          refine then_e ?_
          refine then_e ?_
          refine blk_y ?_
          refine then_n ?_
          refine wp_seq ?_
          refine wp_region_lit ?_
          refine wl_run orc_ok 1 rfl fr fun a fr => ?_
          refine wpList_nil ?_
          refine then_n ?_
          refine wp_ret ?_
          injection h with h
          subst h
          refine ret1 fr rfl rfl ?_
          exact ⟨rfl, fr.vok (d := 4) rfl, S.mask []⟩
  exact (key w rfl (Sat.start w)).mono fun e w' ⟨h1, h2, h3⟩ => ⟨h1, h2, S.new h3.below⟩
set_option maxRecDepth 100000 in
set_option maxHeartbeats 4000000 in
theorem alive.walk (k : Nat)  {w0 w : World} {R : List Asn}  (S : Sat w0 w R) {r : Bool} (h : alive.f k = some r) :
    Calls Try.prog 17 #[] w fun e w' => e = .returned (.bool r) ∧ vok (.bool r) = true ∧ Sat w0 w' R := by
  have key : ∀ w0 : World, w0 = w → Sat w0 w [] → Calls Try.prog 17 #[] w fun e w' => e = .returned (.bool r) ∧ vok (.bool r) = true ∧ Sat w0 w' [] := by
    clear S
    intro w0 hw S
    clear hw
    unfold alive.f at h
    refine calls_start (N := 108) [] Try.func17 rfl rfl rfl rfl fun a fr => ?_
    refine wp_seq ?_
    refine wp_region_lit ?_
    refine wl_run orc_ok 1 rfl fr fun a fr => ?_
    refine wpList_nil ?_
    refine then_n ?_
    refine wp_seq ?_
    refine wp_region_lit ?_
    refine wl_lit (xs := [(1 : Int), (2 : Int)]) orc_ok lit22 fr rfl rfl rfl rfl ⟨rfl, rfl, rfl, rfl, trivial⟩ rfl rfl S ?_
    intro w A1 c2 S
    intro a fr
    have hv := (fr.vok (d := 18) rfl)
    refine wl_call fr rfl rfl rfl rfl en23 (ids_call hv) ?_
    rintro _ w ⟨rfl, hw⟩
    subst hw
    refine ⟨_, rfl, hv, fun a fr => ?_⟩
    refine wl_lit (xs := [(2 : Int), (3 : Int)]) orc_ok lit22 fr rfl rfl rfl rfl ⟨rfl, rfl, rfl, rfl, trivial⟩ rfl rfl S ?_
    intro w A3 c4 S
    intro a fr
    have hv := (fr.vok (d := 20) rfl)
    refine wl_call fr rfl rfl rfl rfl en23 (ids_call hv) ?_
    rintro _ w ⟨rfl, hw⟩
    subst hw
    refine ⟨_, rfl, hv, fun a fr => ?_⟩
    obtain ⟨hc, h⟩ := ifs h
    obtain ⟨y5, hx, h⟩ := lt_h h
    obtain ⟨y6, hx2, h⟩ := lt_h h
    have H := closes_call (A := A1) (c := c2) (l := [(1 : Int), (2 : Int)]) (A1 := A3) (c1 := c4) (l1 := [(2 : Int), (3 : Int)]) (who := (3 : Int)) (whom := (1 : Int)) (Sat.ownAt S 1 rfl) (Sat.ownAt S 0 rfl) (fr.slice (d := 19) rfl) (fr.slice (d := 21) rfl) rfl rfl hc S
    have hv := vok_cl (if List.length [(1 : Int), (2 : Int)] = List.length [(2 : Int), (3 : Int)] then comesB (List.zip [(1 : Int), (2 : Int)] [(2 : Int), (3 : Int)]) (1 : Int) (3 : Int) else false) (List.length [(1 : Int), (2 : Int)] = List.length [(2 : Int), (3 : Int)])
    rw [hx, hx2] at hv H
    refine wl_call fr rfl rfl rfl rfl en14 H ?_
    clear H
    rintro _ w ⟨rfl, S⟩
    refine ⟨_, rfl, hv, fun a fr => ?_⟩
    refine wl_run orc_ok 5 rfl fr fun a fr => ?_
    refine wpList_nil ?_
    refine then_n ?_
    refine wp_seq ?_
    refine wp_region_lit ?_
    refine wl_lit (xs := [(1 : Int), (2 : Int)]) orc_ok lit22 fr rfl rfl rfl rfl ⟨rfl, rfl, rfl, rfl, trivial⟩ rfl rfl S ?_
    intro w A7 c8 S
    intro a fr
    have hv := (fr.vok (d := 26) rfl)
    refine wl_call fr rfl rfl rfl rfl en23 (ids_call hv) ?_
    rintro _ w ⟨rfl, hw⟩
    subst hw
    refine ⟨_, rfl, hv, fun a fr => ?_⟩
    refine wl_lit (xs := [(2 : Int), (3 : Int)]) orc_ok lit22 fr rfl rfl rfl rfl ⟨rfl, rfl, rfl, rfl, trivial⟩ rfl rfl S ?_
    intro w A9 c10 S
    intro a fr
    have hv := (fr.vok (d := 28) rfl)
    refine wl_call fr rfl rfl rfl rfl en23 (ids_call hv) ?_
    rintro _ w ⟨rfl, hw⟩
    subst hw
    refine ⟨_, rfl, hv, fun a fr => ?_⟩
    obtain ⟨hc, h⟩ := ifs h
    obtain ⟨y11, hx, h⟩ := lt_h h
    obtain ⟨y12, hx2, h⟩ := lt_h h
    have H := closes_call (A := A7) (c := c8) (l := [(1 : Int), (2 : Int)]) (A1 := A9) (c1 := c10) (l1 := [(2 : Int), (3 : Int)]) (who := (1 : Int)) (whom := (3 : Int)) (Sat.ownAt S 1 rfl) (Sat.ownAt S 0 rfl) (fr.slice (d := 27) rfl) (fr.slice (d := 29) rfl) rfl rfl hc S
    have hv := vok_cl (if List.length [(1 : Int), (2 : Int)] = List.length [(2 : Int), (3 : Int)] then comesB (List.zip [(1 : Int), (2 : Int)] [(2 : Int), (3 : Int)]) (3 : Int) (1 : Int) else false) (List.length [(1 : Int), (2 : Int)] = List.length [(2 : Int), (3 : Int)])
    rw [hx, hx2] at hv H
    refine wl_call fr rfl rfl rfl rfl en14 H ?_
    clear H
    rintro _ w ⟨rfl, S⟩
    refine ⟨_, rfl, hv, fun a fr => ?_⟩
    refine wl_run orc_ok 5 rfl fr fun a fr => ?_
    refine wpList_nil ?_
    refine then_n ?_
    refine wp_seq ?_
    refine wp_region_lit ?_
    obtain ⟨hc, h⟩ := ifs h
    obtain ⟨y13, hx, h⟩ := lt_h h
    obtain ⟨y14, hx2, h⟩ := lt_h h
    have H := closes_call (A := none) (c := 0) (l := ([] : List Int)) (A1 := none) (c1 := 0) (l1 := ([] : List Int)) (who := (5 : Int)) (whom := (5 : Int)) Rk.nil Rk.nil ⟨Nat.le_refl _, Nat.zero_le _⟩ ⟨Nat.le_refl _, Nat.zero_le _⟩ rfl rfl hc S
    have hv := vok_cl (if List.length ([] : List Int) = List.length ([] : List Int) then comesB (List.zip ([] : List Int) ([] : List Int)) (5 : Int) (5 : Int) else false) (List.length ([] : List Int) = List.length ([] : List Int))
    rw [hx, hx2] at hv H
    refine wl_call fr rfl rfl rfl rfl en14 H ?_
    clear H
    rintro _ w ⟨rfl, S⟩
    refine ⟨_, rfl, hv, fun a fr => ?_⟩
    refine wl_run orc_ok 5 rfl fr fun a fr => ?_
    refine wpList_nil ?_
    refine then_n ?_
    refine wp_seq ?_
    refine wp_region_lit ?_
    refine wl_lit (xs := [(1 : Int)]) orc_ok lit22 fr rfl rfl rfl rfl ⟨rfl, rfl, trivial⟩ rfl rfl S ?_
    intro w A15 c16 S
    intro a fr
    have hv := (fr.vok (d := 38) rfl)
    refine wl_call fr rfl rfl rfl rfl en23 (ids_call hv) ?_
    rintro _ w ⟨rfl, hw⟩
    subst hw
    refine ⟨_, rfl, hv, fun a fr => ?_⟩
    obtain ⟨hc, h⟩ := ifs h
    obtain ⟨y17, hx, h⟩ := lt_h h
    obtain ⟨y18, hx2, h⟩ := lt_h h
    have H := closes_call (A := A15) (c := c16) (l := [(1 : Int)]) (A1 := none) (c1 := 0) (l1 := ([] : List Int)) (who := (1 : Int)) (whom := (2 : Int)) (Sat.ownAt S 0 rfl) Rk.nil (fr.slice (d := 39) rfl) ⟨Nat.le_refl _, Nat.zero_le _⟩ rfl rfl hc S
    have hv := vok_cl (if List.length [(1 : Int)] = List.length ([] : List Int) then comesB (List.zip [(1 : Int)] ([] : List Int)) (2 : Int) (1 : Int) else false) (List.length [(1 : Int)] = List.length ([] : List Int))
    rw [hx, hx2] at hv H
    refine wl_call fr rfl rfl rfl rfl en14 H ?_
    clear H
    rintro _ w ⟨rfl, S⟩
    refine ⟨_, rfl, hv, fun a fr => ?_⟩
    refine wl_run orc_ok 5 rfl fr fun a fr => ?_
    refine wpList_nil ?_
    refine then_n ?_
    refine wp_seq ?_
    refine wp_region_lit ?_
    refine wl_lit (xs := [(1 : Int), (2 : Int), (5 : Int)]) orc_ok lit22 fr rfl rfl rfl rfl ⟨rfl, rfl, rfl, rfl, rfl, rfl, trivial⟩ rfl rfl S ?_
    intro w A19 c20 S
    intro a fr
    have hv := (fr.vok (d := 44) rfl)
    refine wl_call fr rfl rfl rfl rfl en23 (ids_call hv) ?_
    rintro _ w ⟨rfl, hw⟩
    subst hw
    refine ⟨_, rfl, hv, fun a fr => ?_⟩
    refine wl_lit (xs := [(2 : Int), (3 : Int), (3 : Int)]) orc_ok lit22 fr rfl rfl rfl rfl ⟨rfl, rfl, rfl, rfl, rfl, rfl, trivial⟩ rfl rfl S ?_
    intro w A21 c22 S
    intro a fr
    have hv := (fr.vok (d := 46) rfl)
    refine wl_call fr rfl rfl rfl rfl en23 (ids_call hv) ?_
    rintro _ w ⟨rfl, hw⟩
    subst hw
    refine ⟨_, rfl, hv, fun a fr => ?_⟩
    obtain ⟨hc, h⟩ := ifs h
    obtain ⟨o23, hx, h⟩ := lt_h h
    have H := order_call (A := A19) (c := c20) (l := [(1 : Int), (2 : Int), (5 : Int)]) (A1 := A21) (c1 := c22) (l1 := [(2 : Int), (3 : Int), (3 : Int)]) (Sat.ownAt S 1 rfl) (Sat.ownAt S 0 rfl) (fr.slice (d := 45) rfl) (fr.slice (d := 47) rfl) hc S
    rw [hx] at H
    refine wl_call fr rfl rfl rfl rfl en18 H ?_
    clear H
    rintro _ w ⟨A24, c25, rfl, hv, S⟩
    refine ⟨_, rfl, hv, fun a fr => ?_⟩
    refine wl_run orc_ok 5 rfl fr fun a fr => ?_
    refine wpList_nil ?_
    refine then_n ?_
    refine wp_seq ?_
    refine wp_region_lit ?_
    refine wl_lit (xs := [(1 : Int), (2 : Int)]) orc_ok lit22 fr rfl rfl rfl rfl ⟨rfl, rfl, rfl, rfl, trivial⟩ rfl rfl S ?_
    intro w A26 c27 S
    intro a fr
    have hv := (fr.vok (d := 52) rfl)
    refine wl_call fr rfl rfl rfl rfl en23 (ids_call hv) ?_
    rintro _ w ⟨rfl, hw⟩
    subst hw
    refine ⟨_, rfl, hv, fun a fr => ?_⟩
    refine wl_lit (xs := [(2 : Int), (1 : Int)]) orc_ok lit22 fr rfl rfl rfl rfl ⟨rfl, rfl, rfl, rfl, trivial⟩ rfl rfl S ?_
    intro w A28 c29 S
    intro a fr
    have hv := (fr.vok (d := 54) rfl)
    refine wl_call fr rfl rfl rfl rfl en23 (ids_call hv) ?_
    rintro _ w ⟨rfl, hw⟩
    subst hw
    refine ⟨_, rfl, hv, fun a fr => ?_⟩
    obtain ⟨hc, h⟩ := ifs h
    obtain ⟨o30, hx, h⟩ := lt_h h
    have H := order_call (A := A26) (c := c27) (l := [(1 : Int), (2 : Int)]) (A1 := A28) (c1 := c29) (l1 := [(2 : Int), (1 : Int)]) (Sat.ownAt S 1 rfl) (Sat.ownAt S 0 rfl) (fr.slice (d := 53) rfl) (fr.slice (d := 55) rfl) hc S
    rw [hx] at H
    refine wl_call fr rfl rfl rfl rfl en18 H ?_
    clear H
    rintro _ w ⟨A31, c32, rfl, hv, S⟩
    refine ⟨_, rfl, hv, fun a fr => ?_⟩
    refine wl_run orc_ok 5 rfl fr fun a fr => ?_
    refine wpList_nil ?_
    refine then_n ?_
    refine wp_seq ?_
    refine wp_region_lit ?_
    refine wl_lit (xs := [(1 : Int)]) orc_ok lit22 fr rfl rfl rfl rfl ⟨rfl, rfl, trivial⟩ rfl rfl S ?_
    intro w A33 c34 S
    intro a fr
    have hv := (fr.vok (d := 60) rfl)
    refine wl_call fr rfl rfl rfl rfl en23 (ids_call hv) ?_
    rintro _ w ⟨rfl, hw⟩
    subst hw
    refine ⟨_, rfl, hv, fun a fr => ?_⟩
    refine wl_lit (xs := [(1 : Int)]) orc_ok lit22 fr rfl rfl rfl rfl ⟨rfl, rfl, trivial⟩ rfl rfl S ?_
    intro w A35 c36 S
    intro a fr
    have hv := (fr.vok (d := 62) rfl)
    refine wl_call fr rfl rfl rfl rfl en23 (ids_call hv) ?_
    rintro _ w ⟨rfl, hw⟩
    subst hw
    refine ⟨_, rfl, hv, fun a fr => ?_⟩
    obtain ⟨hc, h⟩ := ifs h
    obtain ⟨o37, hx, h⟩ := lt_h h
    have H := order_call (A := A33) (c := c34) (l := [(1 : Int)]) (A1 := A35) (c1 := c36) (l1 := [(1 : Int)]) (Sat.ownAt S 1 rfl) (Sat.ownAt S 0 rfl) (fr.slice (d := 61) rfl) (fr.slice (d := 63) rfl) hc S
    rw [hx] at H
    refine wl_call fr rfl rfl rfl rfl en18 H ?_
    clear H
    rintro _ w ⟨A38, c39, rfl, hv, S⟩
    refine ⟨_, rfl, hv, fun a fr => ?_⟩
    refine wl_run orc_ok 5 rfl fr fun a fr => ?_
    refine wpList_nil ?_
    refine then_n ?_
    refine wp_seq ?_
    refine wp_region_lit ?_
    obtain ⟨hc, h⟩ := ifs h
    obtain ⟨o40, hx, h⟩ := lt_h h
    have H := order_call (A := none) (c := 0) (l := ([] : List Int)) (A1 := none) (c1 := 0) (l1 := ([] : List Int)) Rk.nil Rk.nil ⟨Nat.le_refl _, Nat.zero_le _⟩ ⟨Nat.le_refl _, Nat.zero_le _⟩ hc S
    rw [hx] at H
    refine wl_call fr rfl rfl rfl rfl en18 H ?_
    clear H
    rintro _ w ⟨A41, c42, rfl, hv, S⟩
    refine ⟨_, rfl, hv, fun a fr => ?_⟩
    refine wl_run orc_ok 5 rfl fr fun a fr => ?_
    refine wpList_nil ?_
    refine then_n ?_
    refine wp_seq ?_
    refine wp_region_lit ?_
    refine wl_run orc_ok 2 rfl fr fun a fr => ?_
    refine wl_split 72 fr rfl h (fun fr h => ?_) (fun fr h => ?_)
    · refine wl_run orc_ok 4 rfl fr fun a fr => ?_
      refine wl_split 76 fr rfl h (fun fr h => ?_) (fun fr h => ?_)
      · refine wl_run orc_ok 3 rfl fr fun a fr => ?_
        refine wl_split 79 fr rfl h (fun fr h => ?_) (fun fr h => ?_)
        · refine wl_run orc_ok 4 rfl fr fun a fr => ?_
          refine wl_split 83 fr rfl h (fun fr h => ?_) (fun fr h => ?_)
          · refine wl_run orc_ok 3 rfl fr fun a fr => ?_
            refine wl_split 86 fr rfl h (fun fr h => ?_) (fun fr h => ?_)
            · refine wl_run orc_ok 1 rfl fr fun a fr => ?_
              refine wl_lit (xs := [(3 : Int), (2 : Int), (1 : Int), (5 : Int)]) orc_ok lit22 fr rfl rfl rfl rfl ⟨rfl, rfl, rfl, rfl, rfl, rfl, rfl, rfl, trivial⟩ rfl rfl S ?_
              intro w A43 c44 S
              intro a fr
              have hv := (fr.vok (d := 88) rfl)
              refine wl_call fr rfl rfl rfl rfl en23 (ids_call hv) ?_
              rintro _ w ⟨rfl, hw⟩
              subst hw
              refine ⟨_, rfl, hv, fun a fr => ?_⟩
              obtain ⟨r45, hr, h⟩ := bnd h
              refine wl_call fr rfl rfl rfl rfl en20 (SameIds.walk k A24 c25 (Option.getD o23 []) A43 c44 [(3 : Int), (2 : Int), (1 : Int), (5 : Int)] (Sat.ownAt S 8 rfl) (fr.slice (d := 87) rfl) (Sat.ownAt S 0 rfl) (fr.slice (d := 89) rfl) S hr) ?_
              rintro _ w ⟨rfl, hv, S⟩
              refine ⟨_, rfl, hv, fun a fr => ?_⟩
              refine wl_run orc_ok 2 rfl fr fun a fr => ?_
              refine wl_split 92 fr rfl h (fun fr h => ?_) (fun fr h => ?_)
              · refine wl_run orc_ok 4 rfl fr fun a fr => ?_
                refine wl_split 96 fr rfl h (fun fr h => ?_) (fun fr h => ?_)
                · refine wl_run orc_ok 4 rfl fr fun a fr => ?_
                  refine wl_split 100 fr rfl h (fun fr h => ?_) (fun fr h => ?_)
                  · refine wl_run orc_ok 3 rfl fr fun a fr => ?_
                    refine wl_split 103 fr rfl h (fun fr h => ?_) (fun fr h => ?_)
                    · refine wl_run orc_ok 5 rfl fr fun a fr => ?_
                      obtain ⟨y46, hx, h⟩ := lt_h h
                      have fr := fr.spell (d := 0) rfl (congrArg Value.bool hx)
                      refine wpList_nil ?_
                      refine then_n ?_
                      refine wp_ret ?_
                      injection h with h
                      subst h
                      refine ret1 fr rfl rfl ?_
                      exact ⟨rfl, fr.vok (d := 0) rfl, S.mask [false, false, false, false, false, false, false, false, false, false, false, false, false, false, false, false]⟩
                    · refine wl_run orc_ok 5 rfl fr fun a fr => ?_
                      refine wpList_nil ?_
                      refine then_n ?_
                      refine wp_ret ?_
                      injection h with h
                      subst h
                      refine ret1 fr rfl rfl ?_
                      exact ⟨rfl, fr.vok (d := 0) rfl, S.mask [false, false, false, false, false, false, false, false, false, false, false, false, false, false, false, false]⟩
                  · refine wl_run orc_ok 8 rfl fr fun a fr => ?_
                    refine wpList_nil ?_
                    refine then_n ?_
                    refine wp_ret ?_
                    injection h with h
                    subst h
                    refine ret1 fr rfl rfl ?_
                    exact ⟨rfl, fr.vok (d := 0) rfl, S.mask [false, false, false, false, false, false, false, false, false, false, false, false, false, false, false, false]⟩
                · refine wl_run orc_ok 12 rfl fr fun a fr => ?_
                  refine wpList_nil ?_
                  refine then_n ?_
                  refine wp_ret ?_
                  injection h with h
                  subst h
                  refine ret1 fr rfl rfl ?_
                  exact ⟨rfl, fr.vok (d := 0) rfl, S.mask [false, false, false, false, false, false, false, false, false, false, false, false, false, false, false, false]⟩
              · refine wl_run orc_ok 16 rfl fr fun a fr => ?_
                refine wpList_nil ?_
                refine then_n ?_
                refine wp_ret ?_
                injection h with h
                subst h
                refine ret1 fr rfl rfl ?_
                exact ⟨rfl, fr.vok (d := 0) rfl, S.mask [false, false, false, false, false, false, false, false, false, false, false, false, false, false, false, false]⟩
            · refine wl_run orc_ok 22 rfl fr fun a fr => ?_
              refine wpList_nil ?_
              refine then_n ?_
              refine wp_ret ?_
              injection h with h
              subst h
              refine ret1 fr rfl rfl ?_
              exact ⟨rfl, fr.vok (d := 0) rfl, S.mask [false, false, false, false, false, false, false, false, false, false, false, false, false, false, false]⟩
          · refine wl_run orc_ok 25 rfl fr fun a fr => ?_
            refine wpList_nil ?_
            refine then_n ?_
            refine wp_ret ?_
            injection h with h
            subst h
            refine ret1 fr rfl rfl ?_
            exact ⟨rfl, fr.vok (d := 0) rfl, S.mask [false, false, false, false, false, false, false, false, false, false, false, false, false, false, false]⟩
        · refine wl_run orc_ok 29 rfl fr fun a fr => ?_
          refine wpList_nil ?_
          refine then_n ?_
          refine wp_ret ?_
          injection h with h
          subst h
          refine ret1 fr rfl rfl ?_
          exact ⟨rfl, fr.vok (d := 0) rfl, S.mask [false, false, false, false, false, false, false, false, false, false, false, false, false, false, false]⟩
      · refine wl_run orc_ok 32 rfl fr fun a fr => ?_
        refine wpList_nil ?_
        refine then_n ?_
        refine wp_ret ?_
        injection h with h
        subst h
        refine ret1 fr rfl rfl ?_
        exact ⟨rfl, fr.vok (d := 0) rfl, S.mask [false, false, false, false, false, false, false, false, false, false, false, false, false, false, false]⟩
    · refine wl_run orc_ok 36 rfl fr fun a fr => ?_
      refine wpList_nil ?_
      refine then_n ?_
      refine wp_ret ?_
      injection h with h
      subst h
      refine ret1 fr rfl rfl ?_
      exact ⟨rfl, fr.vok (d := 0) rfl, S.mask [false, false, false, false, false, false, false, false, false, false, false, false, false, false, false]⟩
  exact (key w rfl (Sat.start w)).mono fun e w' ⟨h1, h2, h3⟩ => ⟨h1, h2, S.new h3.below⟩
set_option maxRecDepth 100000 in
set_option maxHeartbeats 4000000 in
theorem RingsWay.walk (k : Nat) (A0 : Option Addr) (c0 : Nat) (l0 : List Int) (A1 : Option Addr) (c1 : Nat) (l1 : List Int) (l2 : List Int) {w0 w : World} {R : List Asn} (rk0 : Rk .u32 w A0 l0) (m0 : l0.length ≤ c0 ∧ c0 ≤ maxLen) (rk1 : Rk .u32 w A1 l1) (m1 : l1.length ≤ c1 ∧ c1 ≤ maxLen) (n2 : l2.length = 3) (v2 : ∀ z ∈ l2, (Lit.int .u32 z).wf = true) (S : Sat w0 w R) {r : Bool} (h : RingsWay.f k l0 l1 l2 = some r) :
    Calls Try.prog 6 #[(.slice A0 (List.length l0) c0), (.slice A1 (List.length l1) c1), (.agg (List.map (Value.int .u32) l2).toArray)] w fun e w' => e = .returned (.bool r) ∧ vok (.bool r) = true ∧ Sat w0 w' R := by
  have key : ∀ w0 : World, w0 = w → Sat w0 w [] → Calls Try.prog 6 #[(.slice A0 (List.length l0) c0), (.slice A1 (List.length l1) c1), (.agg (List.map (Value.int .u32) l2).toArray)] w fun e w' => e = .returned (.bool r) ∧ vok (.bool r) = true ∧ Sat w0 w' [] := by
    clear S
    intro w0 hw S
    rw [← hw] at rk0
    rw [← hw] at rk1
    clear hw
    unfold RingsWay.f at h
    refine calls_start (N := 153) [(.slice A0 (List.length l0) c0), (.slice A1 (List.length l1) c1), (.agg (List.map (Value.int .u32) l2).toArray)] Try.func6 rfl rfl rfl (vok_c (vok_sl m0) (vok_c (vok_sl m1) (vok_c (vok_ag v2) rfl))) fun a fr => ?_
    refine wp_seq ?_
    refine wp_region_lit ?_
    refine wl_box fr rfl rfl rfl rfl rfl n2 (fun _ => rfl) S ?_
    intro w g1 S a fr
    refine wl_run orc_ok 1 rfl fr fun a fr => ?_
    refine wpList_nil ?_
    refine then_n ?_
    refine wp_seq ?_
    refine wp_seq ?_
    refine wp_region_lit ?_
    obtain ⟨r2, hr, h⟩ := bnd h
    refine wl_call fr rfl rfl rfl rfl en17 (alive.walk k  S hr) ?_
    rintro _ w ⟨rfl, hv, S⟩
    refine ⟨_, rfl, hv, fun a fr => ?_⟩
    refine wl_run orc_ok 2 rfl fr fun a fr => ?_
    refine wl_split 23 fr rfl h (fun fr h => ?_) (fun fr h => ?_)
    · refine wl_run orc_ok 11 rfl fr fun a fr => ?_
      refine wpList_nil ?_
      refine then_n ?_
      refine cw_t fr rfl ?_
      refine wp_seq ?_
      refine wp_region_lit ?_
      obtain ⟨r3, hr, h⟩ := bnd h
      refine wl_call fr rfl rfl rfl rfl en17 (alive.walk k  S hr) ?_
      rintro _ w ⟨rfl, hv, S⟩
      refine ⟨_, rfl, hv, fun a fr => ?_⟩
      refine wl_run orc_ok 1 rfl fr fun a fr => ?_
      refine wpList_nil ?_
      refine then_n ?_
      refine wp_ret ?_
      refine then_r ?_
      injection h with h
      subst h
      refine ret1 fr rfl rfl ?_
      exact ⟨rfl, fr.vok (d := 6) rfl, S.mask [false]⟩
    · refine wl_run orc_ok 5 rfl fr fun a fr => ?_
      refine wl_split 28 fr rfl h (fun fr h => ?_) (fun fr h => ?_)
      · refine wl_run orc_ok 6 rfl fr fun a fr => ?_
        refine wpList_nil ?_
        refine then_n ?_
        refine cw_t fr rfl ?_
        refine wp_seq ?_
        refine wp_region_lit ?_
        obtain ⟨r4, hr, h⟩ := bnd h
        refine wl_call fr rfl rfl rfl rfl en17 (alive.walk k  S hr) ?_
        rintro _ w ⟨rfl, hv, S⟩
        refine ⟨_, rfl, hv, fun a fr => ?_⟩
        refine wl_run orc_ok 1 rfl fr fun a fr => ?_
        refine wpList_nil ?_
        refine then_n ?_
        refine wp_ret ?_
        refine then_r ?_
        injection h with h
        subst h
        refine ret1 fr rfl rfl ?_
        exact ⟨rfl, fr.vok (d := 6) rfl, S.mask [false]⟩
      · refine wl_run orc_ok 6 rfl fr fun a fr => ?_
        refine wpList_nil ?_
        refine then_n ?_
        refine cw_if fr rfl h (fun h => ?_) (fun h => ?_)
        · refine wp_seq ?_
          refine wp_region_lit ?_
          obtain ⟨r5, hr, h⟩ := bnd h
          refine wl_call fr rfl rfl rfl rfl en17 (alive.walk k  S hr) ?_
          rintro _ w ⟨rfl, hv, S⟩
          refine ⟨_, rfl, hv, fun a fr => ?_⟩
          refine wl_run orc_ok 1 rfl fr fun a fr => ?_
          refine wpList_nil ?_
          refine then_n ?_
          refine wp_ret ?_
          refine then_r ?_
          injection h with h
          subst h
          refine ret1 fr rfl rfl ?_
          exact ⟨rfl, fr.vok (d := 6) rfl, S.mask [false]⟩
        · refine wp_skip ?_
          refine then_n ?_
          refine wp_seq ?_
          refine wp_region_lit ?_
          refine wl_run orc_ok 2 rfl fr fun a fr => ?_
          obtain ⟨hc, h⟩ := ifs h
          refine wl_lda orc_ok 0 (Sat.arrAt S 0 rfl) fr rfl rfl rfl rfl rfl rfl rfl rfl rfl rfl rfl rfl rfl rfl rfl rfl hc fun a fr => ?_
          obtain ⟨hc, h⟩ := ifs h
          refine wl_lda orc_ok 0 (Sat.arrAt S 0 rfl) fr rfl rfl rfl rfl rfl rfl rfl rfl rfl rfl rfl rfl rfl rfl rfl rfl hc fun a fr => ?_
          obtain ⟨hc, h⟩ := ifs h
          obtain ⟨y6, hx, h⟩ := lt_h h
          obtain ⟨y7, hx2, h⟩ := lt_h h
          have H := closes_call (A := A0) (c := c0) (l := l0) (A1 := A1) (c1 := c1) (l1 := l1) (who := (List.getD l2 (Int.toNat (1 : Int)) 0)) (whom := (List.getD l2 (Int.toNat (0 : Int)) 0)) (Rk.at rk0 S) (Rk.at rk1 S) (fr.slice (d := 37) rfl) (fr.slice (d := 38) rfl) (fr.int (d := 40) rfl) (fr.int (d := 42) rfl) hc S
          have hv := vok_cl (if List.length l0 = List.length l1 then comesB (List.zip l0 l1) (List.getD l2 (Int.toNat (0 : Int)) 0) (List.getD l2 (Int.toNat (1 : Int)) 0) else false) (List.length l0 = List.length l1)
          rw [hx, hx2] at hv H
          refine wl_call fr rfl rfl rfl rfl en14 H ?_
          clear H
          rintro _ w ⟨rfl, S⟩
          refine ⟨_, rfl, hv, fun a fr => ?_⟩
          refine wl_run orc_ok 5 rfl fr fun a fr => ?_
          refine wpList_nil ?_
          refine then_n ?_
          refine wp_seq ?_
          refine wp_region_lit ?_
          refine wl_run orc_ok 2 rfl fr fun a fr => ?_
          obtain ⟨hc, h⟩ := ifs h
          refine wl_lda orc_ok 0 (Sat.arrAt S 0 rfl) fr rfl rfl rfl rfl rfl rfl rfl rfl rfl rfl rfl rfl rfl rfl rfl rfl hc fun a fr => ?_
          obtain ⟨hc, h⟩ := ifs h
          refine wl_lda orc_ok 0 (Sat.arrAt S 0 rfl) fr rfl rfl rfl rfl rfl rfl rfl rfl rfl rfl rfl rfl rfl rfl rfl rfl hc fun a fr => ?_
          obtain ⟨hc, h⟩ := ifs h
          obtain ⟨y8, hx, h⟩ := lt_h h
          obtain ⟨y9, hx2, h⟩ := lt_h h
          have H := closes_call (A := A0) (c := c0) (l := l0) (A1 := A1) (c1 := c1) (l1 := l1) (who := (List.getD l2 (Int.toNat (2 : Int)) 0)) (whom := (List.getD l2 (Int.toNat (1 : Int)) 0)) (Rk.at rk0 S) (Rk.at rk1 S) (fr.slice (d := 47) rfl) (fr.slice (d := 48) rfl) (fr.int (d := 50) rfl) (fr.int (d := 52) rfl) hc S
          have hv := vok_cl (if List.length l0 = List.length l1 then comesB (List.zip l0 l1) (List.getD l2 (Int.toNat (1 : Int)) 0) (List.getD l2 (Int.toNat (2 : Int)) 0) else false) (List.length l0 = List.length l1)
          rw [hx, hx2] at hv H
          refine wl_call fr rfl rfl rfl rfl en14 H ?_
          clear H
          rintro _ w ⟨rfl, S⟩
          refine ⟨_, rfl, hv, fun a fr => ?_⟩
          refine wl_run orc_ok 5 rfl fr fun a fr => ?_
          refine wpList_nil ?_
          refine then_n ?_
          refine wp_seq ?_
          refine wp_region_lit ?_
          refine wl_run orc_ok 2 rfl fr fun a fr => ?_
          obtain ⟨hc, h⟩ := ifs h
          refine wl_lda orc_ok 0 (Sat.arrAt S 0 rfl) fr rfl rfl rfl rfl rfl rfl rfl rfl rfl rfl rfl rfl rfl rfl rfl rfl hc fun a fr => ?_
          obtain ⟨hc, h⟩ := ifs h
          refine wl_lda orc_ok 0 (Sat.arrAt S 0 rfl) fr rfl rfl rfl rfl rfl rfl rfl rfl rfl rfl rfl rfl rfl rfl rfl rfl hc fun a fr => ?_
          obtain ⟨hc, h⟩ := ifs h
          obtain ⟨y10, hx, h⟩ := lt_h h
          obtain ⟨y11, hx2, h⟩ := lt_h h
          have H := closes_call (A := A0) (c := c0) (l := l0) (A1 := A1) (c1 := c1) (l1 := l1) (who := (List.getD l2 (Int.toNat (2 : Int)) 0)) (whom := (List.getD l2 (Int.toNat (0 : Int)) 0)) (Rk.at rk0 S) (Rk.at rk1 S) (fr.slice (d := 57) rfl) (fr.slice (d := 58) rfl) (fr.int (d := 60) rfl) (fr.int (d := 62) rfl) hc S
          have hv := vok_cl (if List.length l0 = List.length l1 then comesB (List.zip l0 l1) (List.getD l2 (Int.toNat (0 : Int)) 0) (List.getD l2 (Int.toNat (2 : Int)) 0) else false) (List.length l0 = List.length l1)
          rw [hx, hx2] at hv H
          refine wl_call fr rfl rfl rfl rfl en14 H ?_
          clear H
          rintro _ w ⟨rfl, S⟩
          refine ⟨_, rfl, hv, fun a fr => ?_⟩
          refine wl_run orc_ok 5 rfl fr fun a fr => ?_
          refine wpList_nil ?_
          refine then_n ?_
          refine wp_seq ?_
          refine wp_region_lit ?_
          refine wl_run orc_ok 2 rfl fr fun a fr => ?_
          obtain ⟨hc, h⟩ := ifs h
          refine wl_lda orc_ok 0 (Sat.arrAt S 0 rfl) fr rfl rfl rfl rfl rfl rfl rfl rfl rfl rfl rfl rfl rfl rfl rfl rfl hc fun a fr => ?_
          obtain ⟨hc, h⟩ := ifs h
          refine wl_lda orc_ok 0 (Sat.arrAt S 0 rfl) fr rfl rfl rfl rfl rfl rfl rfl rfl rfl rfl rfl rfl rfl rfl rfl rfl hc fun a fr => ?_
          obtain ⟨hc, h⟩ := ifs h
          obtain ⟨y12, hx, h⟩ := lt_h h
          obtain ⟨y13, hx2, h⟩ := lt_h h
          have H := closes_call (A := A0) (c := c0) (l := l0) (A1 := A1) (c1 := c1) (l1 := l1) (who := (List.getD l2 (Int.toNat (0 : Int)) 0)) (whom := (List.getD l2 (Int.toNat (0 : Int)) 0)) (Rk.at rk0 S) (Rk.at rk1 S) (fr.slice (d := 67) rfl) (fr.slice (d := 68) rfl) (fr.int (d := 70) rfl) (fr.int (d := 72) rfl) hc S
          have hv := vok_cl (if List.length l0 = List.length l1 then comesB (List.zip l0 l1) (List.getD l2 (Int.toNat (0 : Int)) 0) (List.getD l2 (Int.toNat (0 : Int)) 0) else false) (List.length l0 = List.length l1)
          rw [hx, hx2] at hv H
          refine wl_call fr rfl rfl rfl rfl en14 H ?_
          clear H
          rintro _ w ⟨rfl, S⟩
          refine ⟨_, rfl, hv, fun a fr => ?_⟩
          refine wl_run orc_ok 5 rfl fr fun a fr => ?_
          refine wpList_nil ?_
          refine then_n ?_
          refine cw_cut (fun a w => Fr 153 a [(0, (.slice A0 (List.length l0) c0)), (1, (.slice A1 (List.length l1) c1)), (5, (.pointer (some ⟨g1, 0, none⟩))), (9, (.bool y8)), (11, (.bool y10))] ∧ Sat w0 w [arrA (Value.int .u32) 35 3 g1 l2] ∧ (RingsWay.j1 l2 l0 l1 y10 y8) = some r) ?_ ?_
          · refine wp_seq ?_
            refine wp_region_lit ?_
            refine wl_run orc_ok 3 rfl fr fun a fr => ?_
            refine wl_split 78 fr rfl h (fun fr h => ?_) (fun fr h => ?_)
            · cases h
            · refine wl_run orc_ok 4 rfl fr fun a fr => ?_
              refine wl_split 82 fr rfl h (fun fr h => ?_) (fun fr h => ?_)
              · cases h
              · refine wl_run orc_ok 4 rfl fr fun a fr => ?_
                refine wl_split 86 fr rfl h (fun fr h => ?_) (fun fr h => ?_)
                · cases h
                · refine wl_run orc_ok 4 rfl fr fun a fr => ?_
                  refine wl_split 90 fr rfl h (fun fr h => ?_) (fun fr h => ?_)
                  · cases h
                  · refine wl_run orc_ok 4 rfl fr fun a fr => ?_
                    refine wl_split 94 fr rfl h (fun fr h => ?_) (fun fr h => ?_)
                    · cases h
                    · refine wl_run orc_ok 2 rfl fr fun a fr => ?_
                      refine wl_split 96 fr rfl h (fun fr h => ?_) (fun fr h => ?_)
                      · refine wl_run orc_ok 3 rfl fr fun a fr => ?_
                        refine wl_split 99 fr rfl h (fun fr h => ?_) (fun fr h => ?_)
                        · refine wl_run orc_ok 4 rfl fr fun a fr => ?_
                          refine wpList_nil ?_
                          refine then_n ?_
                          refine cw_if fr rfl h (fun h => ?_) (fun h => ?_)
                          · cases h
                          · refine wp_skip ?_
                            exact ⟨fr.sub ⟨rfl, rfl, rfl, rfl, rfl, trivial⟩, S, h⟩
                        · refine wl_run orc_ok 4 rfl fr fun a fr => ?_
                          refine wpList_nil ?_
                          refine then_n ?_
                          refine cw_f fr rfl ?_
                          refine wp_skip ?_
                          exact ⟨fr.sub ⟨rfl, rfl, rfl, rfl, rfl, trivial⟩, S, h⟩
                      · refine wl_run orc_ok 7 rfl fr fun a fr => ?_
                        refine wpList_nil ?_
                        refine then_n ?_
                        refine cw_f fr rfl ?_
                        refine wp_skip ?_
                        exact ⟨fr.sub ⟨rfl, rfl, rfl, rfl, rfl, trivial⟩, S, h⟩
          · rintro a w ⟨fr, S, h⟩
            rw [RingsWay.j1] at h
            refine wp_seq ?_
            obtain ⟨hc_1, h⟩ := ifs h
            obtain ⟨hc_2, h⟩ := ifs h
            refine wp_region_pool (fun n => match n with | 0 => fun a w => Fr 153 a [(0, (.slice A0 (List.length l0) c0)), (1, (.slice A1 (List.length l1) c1)), (5, (.pointer (some ⟨g1, 0, none⟩))), (9, (.bool y8)), (11, (.bool y10)), (104, (.slice A0 (List.length l0) c0)), (107, (.int .u32 (List.getD l2 (Int.toNat (0 : Int)) 0)))] ∧ Sat w0 w [arrA (Value.int .u32) 35 3 g1 l2] | 1 => fun a w => ∃ A14 : Option Addr, ∃ c15 : Nat, Fr 153 a [(0, (.slice A0 (List.length l0) c0)), (1, (.slice A1 (List.length l1) c1)), (5, (.pointer (some ⟨g1, 0, none⟩))), (9, (.bool y8)), (11, (.bool y10)), (104, (.slice A0 (List.length l0) c0)), (105, (.slice A14 (List.length l0) c15)), (107, (.int .u32 (List.getD l2 (Int.toNat (0 : Int)) 0)))] ∧ Sat w0 w [twA A14 c15 l0, arrA (Value.int .u32) 35 3 g1 l2] | 2 => fun a w => ∃ A18 : Option Addr, ∃ c19 : Nat, Fr 153 a [(0, (.slice A0 (List.length l0) c0)), (1, (.slice A1 (List.length l1) c1)), (5, (.pointer (some ⟨g1, 0, none⟩))), (9, (.bool y8)), (11, (.bool y10)), (104, (.slice A0 (List.length l0) c0)), (107, (.int .u32 (List.getD l2 (Int.toNat (0 : Int)) 0))), (108, (.slice A18 (List.length [(List.getD l2 (Int.toNat (0 : Int)) 0)]) c19))] ∧ Sat w0 w [ownA .u32 23 A18 c19 [(List.getD l2 (Int.toNat (0 : Int)) 0)], arrA (Value.int .u32) 35 3 g1 l2] | 3 => fun a w => ∃ A16 : Option Addr, ∃ c17 : Nat, ∃ A14 : Option Addr, ∃ c15 : Nat, Fr 153 a [(0, (.slice A0 (List.length l0) c0)), (1, (.slice A1 (List.length l1) c1)), (5, (.pointer (some ⟨g1, 0, none⟩))), (9, (.bool y8)), (11, (.bool y10)), (104, (.slice A0 (List.length l0) c0)), (105, (.slice A14 (List.length l0) c15)), (107, (.int .u32 (List.getD l2 (Int.toNat (0 : Int)) 0))), (108, (.slice A16 (List.length [(List.getD l2 (Int.toNat (0 : Int)) 0)]) c17))] ∧ Sat w0 w [ownA .u32 23 A16 c17 [(List.getD l2 (Int.toNat (0 : Int)) 0)], twA A14 c15 l0, arrA (Value.int .u32) 35 3 g1 l2] | _ => fun _ _ => False) [.one (0, true, some 104), .one (2, true, some 106), .one (3, true, some 107)]
              [.one ⟨true, some 104, (Go.Op.move (Go.Operand.tmp 0)), 22, none⟩,
    .one ⟨true, some 106, (Go.Op.indexAddr 35 (Go.Operand.tmp 5) (Go.Operand.const (Go.Value.int Go.IntKind.i64 0))), 0, none⟩,
    .one ⟨true, some 107, (Go.Op.load 23 (Go.Operand.tmp 106)), 23, none⟩]
              [⟨0, #[true, false, true, true, false, false, false], [(1, some 105, 1), (4, some 108, 2)]⟩, ⟨1, #[true, true, true, true, false, false, false], [(4, some 108, 3)]⟩, ⟨2, #[true, false, true, true, true, false, false], [(1, some 105, 3)]⟩]
              ⟨0, #[true, false, true, true, false, false, false], [(1, some 105, 1), (4, some 108, 2)]⟩
              [(0, [(⟨false, some 105, (Go.Op.call { callee := (Go.Callee.value (Go.Operand.func 13)), args := #[(Go.Operand.tmp 104)], argTypes := #[22] }), 22, none⟩, 1), (⟨false, some 108, (Go.Op.buildSlice 22 1 #[(0, (Go.Operand.tmp 107))]), 22, none⟩, 2)]), (1, [(⟨false, some 108, (Go.Op.buildSlice 22 1 #[(0, (Go.Operand.tmp 107))]), 22, none⟩, 3)]), (2, [(⟨false, some 105, (Go.Op.call { callee := (Go.Callee.value (Go.Operand.func 13)), args := #[(Go.Operand.tmp 104)], argTypes := #[22] }), 22, none⟩, 3)])]
              #[true, true, true, true, true, false, false] 3 [.one (5, false, some 109), .one (6, true, some 15)]
              [.one ⟨false, some 109, (Go.Op.call { callee := (Go.Callee.builtin Go.Builtin.append), args := #[(Go.Operand.tmp 105), (Go.Operand.tmp 108)], argTypes := #[22, 22] }), 22, none⟩,
    .one ⟨true, some 15, (Go.Op.assign (Go.Operand.tmp 109)), 22, none⟩]
              (fun w => Sat w0 w [arrA (Value.int .u32) 35 3 g1 l2]) rfl (by kernel_rfl) (List.mem_cons_self) (by kernel_rfl) (by kernel_rfl) (by kernel_rfl) (by kernel_rfl) (S.drew.mask [true]) ?_ ⟨⟨?_, ?_, trivial⟩, ⟨?_, trivial⟩, ⟨?_, trivial⟩, trivial⟩ ?_
            · have S := S.drew
              refine sl_run orc_ok 1 rfl fr fun a fr => ?_
              refine sl_lda orc_ok 0 (fun _ S => Sat.arrAt S 0 rfl) fr rfl rfl rfl rfl rfl rfl rfl rfl rfl rfl rfl rfl rfl rfl rfl rfl rfl rfl hc_1 (Sat.mask S [true]) fun a fr => ?_
              refine sl_end ?_
              exact ⟨rfl, fr.sub ⟨rfl, rfl, rfl, rfl, rfl, rfl, rfl, trivial⟩, S⟩
            · intro a w hS hI
              obtain ⟨fr, S⟩ := hI
              refine sl_call fr rfl rfl rfl rfl rfl en13 (twin_call (Rk.at rk0 S) hc_2 S) ?_
              rintro _ w ⟨A50, c51, rfl, hv, S⟩
              refine ⟨_, rfl, hv, (Sat.mask S [false, true]), fun a fr => ?_⟩
              refine sl_end ?_
              exact ⟨rfl, A50, c51, fr.sub ⟨rfl, rfl, rfl, rfl, rfl, rfl, rfl, rfl, trivial⟩, S⟩
            · intro a w hS hI
              obtain ⟨fr, S⟩ := hI
              refine sl_lit (xs := [(List.getD l2 (Int.toNat (0 : Int)) 0)]) orc_ok lit22 fr rfl rfl rfl rfl rfl ⟨rfl, rfl, trivial⟩ rfl rfl S ?_
              intro w A52 c53 S
              refine ⟨(Sat.mask S [false, true]), fun a fr => ?_⟩
              refine sl_end ?_
              exact ⟨rfl, A52, c53, fr.sub ⟨rfl, rfl, rfl, rfl, rfl, rfl, rfl, rfl, trivial⟩, S⟩
            · intro a w hS hI
              obtain ⟨A14, c15, fr, S⟩ := hI
              refine sl_lit (xs := [(List.getD l2 (Int.toNat (0 : Int)) 0)]) orc_ok lit22 fr rfl rfl rfl rfl rfl ⟨rfl, rfl, trivial⟩ rfl rfl S ?_
              intro w A54 c55 S
              refine ⟨(Sat.mask S [false, false, true]), fun a fr => ?_⟩
              refine sl_end ?_
              exact ⟨rfl, A54, c55, A14, c15, fr.sub ⟨rfl, rfl, rfl, rfl, rfl, rfl, rfl, rfl, rfl, trivial⟩, S⟩
            · intro a w hS hI
              obtain ⟨A18, c19, fr, S⟩ := hI
              refine sl_call fr rfl rfl rfl rfl rfl en13 (twin_call (Rk.at rk0 S) hc_2 S) ?_
              rintro _ w ⟨A56, c57, rfl, hv, S⟩
              refine ⟨_, rfl, hv, (Sat.mask S [false, false, true]), fun a fr => ?_⟩
              refine sl_end ?_
              have S : Sat w0 _ [arrA (Value.int .u32) 35 3 g1 l2, twA A56 c57 l0, ownA .u32 23 A18 c19 [(List.getD l2 (Int.toNat (0 : Int)) 0)]] := S.frontAt 2 rfl
              have S : Sat w0 _ [twA A56 c57 l0, arrA (Value.int .u32) 35 3 g1 l2, ownA .u32 23 A18 c19 [(List.getD l2 (Int.toNat (0 : Int)) 0)]] := S.frontAt 1 rfl
              have S : Sat w0 _ [ownA .u32 23 A18 c19 [(List.getD l2 (Int.toNat (0 : Int)) 0)], twA A56 c57 l0, arrA (Value.int .u32) 35 3 g1 l2] := S.frontAt 2 rfl
              exact ⟨rfl, A18, c19, A56, c57, fr.sub ⟨rfl, rfl, rfl, rfl, rfl, rfl, rfl, rfl, rfl, trivial⟩, S⟩
            · intro a w hS hI
              obtain ⟨A16, c17, A14, c15, fr, S⟩ := hI
              obtain ⟨hc, h⟩ := ifs h
              have S : Sat w0 _ [twA A14 c15 l0, ownA .u32 23 A16 c17 [(List.getD l2 (Int.toNat (0 : Int)) 0)], arrA (Value.int .u32) 35 3 g1 l2] := S.frontAt 1 rfl
              have S := S.twnOwn
              have hy := (Sat.ownAt S 1 rfl)
              refine sl_app lit22 fr rfl rfl rfl rfl rfl rfl rfl rfl rfl hy hc S ?_
              intro w A24 c25 S
              have S : Sat w0 _ [ownA .u32 23 A24 c25 (l0 ++ [(List.getD l2 (Int.toNat (0 : Int)) 0)]), arrA (Value.int .u32) 35 3 g1 l2] := S.mask [true, false, true]
              refine ⟨(Sat.mask S [false, true]), fun a fr => ?_⟩
              refine sl_run orc_ok 1 rfl fr fun a fr => ?_
              refine sl_end ?_
              refine then_n ?_
              refine wp_seq ?_
              obtain ⟨hc_1, h⟩ := ifs h
              obtain ⟨hc_2, h⟩ := ifs h
              refine wp_region_pool (fun n => match n with | 0 => fun a w => Fr 153 a [(0, (.slice A0 (List.length l0) c0)), (1, (.slice A1 (List.length l1) c1)), (5, (.pointer (some ⟨g1, 0, none⟩))), (9, (.bool y8)), (11, (.bool y10)), (15, (.slice A24 (List.length (l0 ++ [(List.getD l2 (Int.toNat (0 : Int)) 0)])) c25)), (104, (.slice A0 (List.length l0) c0)), (107, (.int .u32 (List.getD l2 (Int.toNat (0 : Int)) 0))), (109, (.slice A24 (List.length (l0 ++ [(List.getD l2 (Int.toNat (0 : Int)) 0)])) c25)), (110, (.slice A1 (List.length l1) c1)), (113, (.int .u32 (List.getD l2 (Int.toNat (1 : Int)) 0)))] ∧ Sat w0 w [ownA .u32 23 A24 c25 (l0 ++ [(List.getD l2 (Int.toNat (0 : Int)) 0)]), arrA (Value.int .u32) 35 3 g1 l2] | 1 => fun a w => ∃ A26 : Option Addr, ∃ c27 : Nat, Fr 153 a [(0, (.slice A0 (List.length l0) c0)), (1, (.slice A1 (List.length l1) c1)), (5, (.pointer (some ⟨g1, 0, none⟩))), (9, (.bool y8)), (11, (.bool y10)), (15, (.slice A24 (List.length (l0 ++ [(List.getD l2 (Int.toNat (0 : Int)) 0)])) c25)), (104, (.slice A0 (List.length l0) c0)), (107, (.int .u32 (List.getD l2 (Int.toNat (0 : Int)) 0))), (109, (.slice A24 (List.length (l0 ++ [(List.getD l2 (Int.toNat (0 : Int)) 0)])) c25)), (110, (.slice A1 (List.length l1) c1)), (111, (.slice A26 (List.length l1) c27)), (113, (.int .u32 (List.getD l2 (Int.toNat (1 : Int)) 0)))] ∧ Sat w0 w [twA A26 c27 l1, ownA .u32 23 A24 c25 (l0 ++ [(List.getD l2 (Int.toNat (0 : Int)) 0)]), arrA (Value.int .u32) 35 3 g1 l2] | 2 => fun a w => ∃ A30 : Option Addr, ∃ c31 : Nat, Fr 153 a [(0, (.slice A0 (List.length l0) c0)), (1, (.slice A1 (List.length l1) c1)), (5, (.pointer (some ⟨g1, 0, none⟩))), (9, (.bool y8)), (11, (.bool y10)), (15, (.slice A24 (List.length (l0 ++ [(List.getD l2 (Int.toNat (0 : Int)) 0)])) c25)), (104, (.slice A0 (List.length l0) c0)), (107, (.int .u32 (List.getD l2 (Int.toNat (0 : Int)) 0))), (109, (.slice A24 (List.length (l0 ++ [(List.getD l2 (Int.toNat (0 : Int)) 0)])) c25)), (110, (.slice A1 (List.length l1) c1)), (113, (.int .u32 (List.getD l2 (Int.toNat (1 : Int)) 0))), (114, (.slice A30 (List.length [(List.getD l2 (Int.toNat (1 : Int)) 0)]) c31))] ∧ Sat w0 w [ownA .u32 23 A30 c31 [(List.getD l2 (Int.toNat (1 : Int)) 0)], ownA .u32 23 A24 c25 (l0 ++ [(List.getD l2 (Int.toNat (0 : Int)) 0)]), arrA (Value.int .u32) 35 3 g1 l2] | 3 => fun a w => ∃ A28 : Option Addr, ∃ c29 : Nat, ∃ A26 : Option Addr, ∃ c27 : Nat, Fr 153 a [(0, (.slice A0 (List.length l0) c0)), (1, (.slice A1 (List.length l1) c1)), (5, (.pointer (some ⟨g1, 0, none⟩))), (9, (.bool y8)), (11, (.bool y10)), (15, (.slice A24 (List.length (l0 ++ [(List.getD l2 (Int.toNat (0 : Int)) 0)])) c25)), (104, (.slice A0 (List.length l0) c0)), (107, (.int .u32 (List.getD l2 (Int.toNat (0 : Int)) 0))), (109, (.slice A24 (List.length (l0 ++ [(List.getD l2 (Int.toNat (0 : Int)) 0)])) c25)), (110, (.slice A1 (List.length l1) c1)), (111, (.slice A26 (List.length l1) c27)), (113, (.int .u32 (List.getD l2 (Int.toNat (1 : Int)) 0))), (114, (.slice A28 (List.length [(List.getD l2 (Int.toNat (1 : Int)) 0)]) c29))] ∧ Sat w0 w [ownA .u32 23 A28 c29 [(List.getD l2 (Int.toNat (1 : Int)) 0)], twA A26 c27 l1, ownA .u32 23 A24 c25 (l0 ++ [(List.getD l2 (Int.toNat (0 : Int)) 0)]), arrA (Value.int .u32) 35 3 g1 l2] | _ => fun _ _ => False) [.one (0, true, some 110), .one (2, true, some 112), .one (3, true, some 113)]
                [.one ⟨true, some 110, (Go.Op.move (Go.Operand.tmp 1)), 22, none⟩,
    .one ⟨true, some 112, (Go.Op.indexAddr 35 (Go.Operand.tmp 5) (Go.Operand.const (Go.Value.int Go.IntKind.i64 1))), 0, none⟩,
    .one ⟨true, some 113, (Go.Op.load 23 (Go.Operand.tmp 112)), 23, none⟩]
                [⟨0, #[true, false, true, true, false, false, false], [(1, some 111, 1), (4, some 114, 2)]⟩, ⟨1, #[true, true, true, true, false, false, false], [(4, some 114, 3)]⟩, ⟨2, #[true, false, true, true, true, false, false], [(1, some 111, 3)]⟩]
                ⟨0, #[true, false, true, true, false, false, false], [(1, some 111, 1), (4, some 114, 2)]⟩
                [(0, [(⟨false, some 111, (Go.Op.call { callee := (Go.Callee.value (Go.Operand.func 13)), args := #[(Go.Operand.tmp 110)], argTypes := #[22] }), 22, none⟩, 1), (⟨false, some 114, (Go.Op.buildSlice 22 1 #[(0, (Go.Operand.tmp 113))]), 22, none⟩, 2)]), (1, [(⟨false, some 114, (Go.Op.buildSlice 22 1 #[(0, (Go.Operand.tmp 113))]), 22, none⟩, 3)]), (2, [(⟨false, some 111, (Go.Op.call { callee := (Go.Callee.value (Go.Operand.func 13)), args := #[(Go.Operand.tmp 110)], argTypes := #[22] }), 22, none⟩, 3)])]
                #[true, true, true, true, true, false, false] 3 [.one (5, false, some 115), .one (6, true, some 16)]
                [.one ⟨false, some 115, (Go.Op.call { callee := (Go.Callee.builtin Go.Builtin.append), args := #[(Go.Operand.tmp 111), (Go.Operand.tmp 114)], argTypes := #[22, 22] }), 22, none⟩,
    .one ⟨true, some 16, (Go.Op.assign (Go.Operand.tmp 115)), 22, none⟩]
                (fun w => Sat w0 w [ownA .u32 23 A24 c25 (l0 ++ [(List.getD l2 (Int.toNat (0 : Int)) 0)]), arrA (Value.int .u32) 35 3 g1 l2]) rfl (by kernel_rfl) (List.mem_cons_self) (by kernel_rfl) (by kernel_rfl) (by kernel_rfl) (by kernel_rfl) (S.drew.mask [true, true]) ?_ ⟨⟨?_, ?_, trivial⟩, ⟨?_, trivial⟩, ⟨?_, trivial⟩, trivial⟩ ?_
              · have S := S.drew
                refine sl_run orc_ok 1 rfl fr fun a fr => ?_
                refine sl_lda orc_ok 0 (fun _ S => Sat.arrAt S 1 rfl) fr rfl rfl rfl rfl rfl rfl rfl rfl rfl rfl rfl rfl rfl rfl rfl rfl rfl rfl hc_1 (Sat.mask S [true, true]) fun a fr => ?_
                refine sl_end ?_
                exact ⟨rfl, fr.sub ⟨rfl, rfl, rfl, rfl, rfl, rfl, rfl, rfl, rfl, rfl, rfl, trivial⟩, S⟩
              · intro a w hS hI
                obtain ⟨fr, S⟩ := hI
                refine sl_call fr rfl rfl rfl rfl rfl en13 (twin_call (Rk.at rk1 S) hc_2 S) ?_
                rintro _ w ⟨A42, c43, rfl, hv, S⟩
                refine ⟨_, rfl, hv, (Sat.mask S [false, true, true]), fun a fr => ?_⟩
                refine sl_end ?_
                exact ⟨rfl, A42, c43, fr.sub ⟨rfl, rfl, rfl, rfl, rfl, rfl, rfl, rfl, rfl, rfl, rfl, rfl, trivial⟩, S⟩
              · intro a w hS hI
                obtain ⟨fr, S⟩ := hI
                refine sl_lit (xs := [(List.getD l2 (Int.toNat (1 : Int)) 0)]) orc_ok lit22 fr rfl rfl rfl rfl rfl ⟨rfl, rfl, trivial⟩ rfl rfl S ?_
                intro w A44 c45 S
                refine ⟨(Sat.mask S [false, true, true]), fun a fr => ?_⟩
                refine sl_end ?_
                exact ⟨rfl, A44, c45, fr.sub ⟨rfl, rfl, rfl, rfl, rfl, rfl, rfl, rfl, rfl, rfl, rfl, rfl, trivial⟩, S⟩
              · intro a w hS hI
                obtain ⟨A26, c27, fr, S⟩ := hI
                refine sl_lit (xs := [(List.getD l2 (Int.toNat (1 : Int)) 0)]) orc_ok lit22 fr rfl rfl rfl rfl rfl ⟨rfl, rfl, trivial⟩ rfl rfl S ?_
                intro w A46 c47 S
                refine ⟨(Sat.mask S [false, false, true, true]), fun a fr => ?_⟩
                refine sl_end ?_
                exact ⟨rfl, A46, c47, A26, c27, fr.sub ⟨rfl, rfl, rfl, rfl, rfl, rfl, rfl, rfl, rfl, rfl, rfl, rfl, rfl, trivial⟩, S⟩
              · intro a w hS hI
                obtain ⟨A30, c31, fr, S⟩ := hI
                refine sl_call fr rfl rfl rfl rfl rfl en13 (twin_call (Rk.at rk1 S) hc_2 S) ?_
                rintro _ w ⟨A48, c49, rfl, hv, S⟩
                refine ⟨_, rfl, hv, (Sat.mask S [false, false, true, true]), fun a fr => ?_⟩
                refine sl_end ?_
                have S : Sat w0 _ [arrA (Value.int .u32) 35 3 g1 l2, twA A48 c49 l1, ownA .u32 23 A30 c31 [(List.getD l2 (Int.toNat (1 : Int)) 0)], ownA .u32 23 A24 c25 (l0 ++ [(List.getD l2 (Int.toNat (0 : Int)) 0)])] := S.frontAt 3 rfl
                have S : Sat w0 _ [ownA .u32 23 A24 c25 (l0 ++ [(List.getD l2 (Int.toNat (0 : Int)) 0)]), arrA (Value.int .u32) 35 3 g1 l2, twA A48 c49 l1, ownA .u32 23 A30 c31 [(List.getD l2 (Int.toNat (1 : Int)) 0)]] := S.frontAt 3 rfl
                have S : Sat w0 _ [twA A48 c49 l1, ownA .u32 23 A24 c25 (l0 ++ [(List.getD l2 (Int.toNat (0 : Int)) 0)]), arrA (Value.int .u32) 35 3 g1 l2, ownA .u32 23 A30 c31 [(List.getD l2 (Int.toNat (1 : Int)) 0)]] := S.frontAt 2 rfl
                have S : Sat w0 _ [ownA .u32 23 A30 c31 [(List.getD l2 (Int.toNat (1 : Int)) 0)], twA A48 c49 l1, ownA .u32 23 A24 c25 (l0 ++ [(List.getD l2 (Int.toNat (0 : Int)) 0)]), arrA (Value.int .u32) 35 3 g1 l2] := S.frontAt 3 rfl
                exact ⟨rfl, A30, c31, A48, c49, fr.sub ⟨rfl, rfl, rfl, rfl, rfl, rfl, rfl, rfl, rfl, rfl, rfl, rfl, rfl, trivial⟩, S⟩
              · intro a w hS hI
                obtain ⟨A28, c29, A26, c27, fr, S⟩ := hI
                obtain ⟨hc, h⟩ := ifs h
                have S : Sat w0 _ [twA A26 c27 l1, ownA .u32 23 A28 c29 [(List.getD l2 (Int.toNat (1 : Int)) 0)], ownA .u32 23 A24 c25 (l0 ++ [(List.getD l2 (Int.toNat (0 : Int)) 0)]), arrA (Value.int .u32) 35 3 g1 l2] := S.frontAt 1 rfl
                have S := S.twnOwn
                have hy := (Sat.ownAt S 1 rfl)
                refine sl_app lit22 fr rfl rfl rfl rfl rfl rfl rfl rfl rfl hy hc S ?_
                intro w A36 c37 S
                have S : Sat w0 _ [ownA .u32 23 A36 c37 (l1 ++ [(List.getD l2 (Int.toNat (1 : Int)) 0)]), ownA .u32 23 A24 c25 (l0 ++ [(List.getD l2 (Int.toNat (0 : Int)) 0)]), arrA (Value.int .u32) 35 3 g1 l2] := S.mask [true, false, true, true]
                refine ⟨(Sat.mask S [false, true, true]), fun a fr => ?_⟩
                refine sl_run orc_ok 1 rfl fr fun a fr => ?_
                refine sl_end ?_
                refine then_n ?_
                refine wp_seq ?_
                refine wp_region_lit ?_
                refine wl_run orc_ok 2 rfl fr fun a fr => ?_
                obtain ⟨hc, h⟩ := ifs h
                refine wl_lda orc_ok 0 (Sat.arrAt S 2 rfl) fr rfl rfl rfl rfl rfl rfl rfl rfl rfl rfl rfl rfl rfl rfl rfl rfl hc fun a fr => ?_
                obtain ⟨hc, h⟩ := ifs h
                refine wl_lda orc_ok 0 (Sat.arrAt S 2 rfl) fr rfl rfl rfl rfl rfl rfl rfl rfl rfl rfl rfl rfl rfl rfl rfl rfl hc fun a fr => ?_
                obtain ⟨hc, h⟩ := ifs h
                obtain ⟨y38, hx, h⟩ := lt_h h
                obtain ⟨y39, hx2, h⟩ := lt_h h
                have H := closes_call (A := A24) (c := c25) (l := (l0 ++ [(List.getD l2 (Int.toNat (0 : Int)) 0)])) (A1 := A36) (c1 := c37) (l1 := (l1 ++ [(List.getD l2 (Int.toNat (1 : Int)) 0)])) (who := (List.getD l2 (Int.toNat (2 : Int)) 0)) (whom := (List.getD l2 (Int.toNat (0 : Int)) 0)) (Sat.ownAt S 1 rfl) (Sat.ownAt S 0 rfl) (fr.slice (d := 117) rfl) (fr.slice (d := 118) rfl) (fr.int (d := 120) rfl) (fr.int (d := 122) rfl) hc S
                have hv := vok_cl (if List.length (l0 ++ [(List.getD l2 (Int.toNat (0 : Int)) 0)]) = List.length (l1 ++ [(List.getD l2 (Int.toNat (1 : Int)) 0)]) then comesB (List.zip (l0 ++ [(List.getD l2 (Int.toNat (0 : Int)) 0)]) (l1 ++ [(List.getD l2 (Int.toNat (1 : Int)) 0)])) (List.getD l2 (Int.toNat (0 : Int)) 0) (List.getD l2 (Int.toNat (2 : Int)) 0) else false) (List.length (l0 ++ [(List.getD l2 (Int.toNat (0 : Int)) 0)]) = List.length (l1 ++ [(List.getD l2 (Int.toNat (1 : Int)) 0)]))
                rw [hx, hx2] at hv H
                refine wl_call fr rfl rfl rfl rfl en14 H ?_
                clear H
                rintro _ w ⟨rfl, S⟩
                refine ⟨_, rfl, hv, fun a fr => ?_⟩
                refine wl_run orc_ok 5 rfl fr fun a fr => ?_
                refine wpList_nil ?_
                refine then_n ?_
                refine wp_seq ?_
                refine wp_region_lit ?_
                refine wl_run orc_ok 2 rfl fr fun a fr => ?_
                obtain ⟨hc, h⟩ := ifs h
                refine wl_lda orc_ok 0 (Sat.arrAt S 2 rfl) fr rfl rfl rfl rfl rfl rfl rfl rfl rfl rfl rfl rfl rfl rfl rfl rfl hc fun a fr => ?_
                obtain ⟨hc, h⟩ := ifs h
                refine wl_lda orc_ok 0 (Sat.arrAt S 2 rfl) fr rfl rfl rfl rfl rfl rfl rfl rfl rfl rfl rfl rfl rfl rfl rfl rfl hc fun a fr => ?_
                obtain ⟨hc, h⟩ := ifs h
                obtain ⟨y40, hx, h⟩ := lt_h h
                obtain ⟨y41, hx2, h⟩ := lt_h h
                have H := closes_call (A := A24) (c := c25) (l := (l0 ++ [(List.getD l2 (Int.toNat (0 : Int)) 0)])) (A1 := A36) (c1 := c37) (l1 := (l1 ++ [(List.getD l2 (Int.toNat (1 : Int)) 0)])) (who := (List.getD l2 (Int.toNat (1 : Int)) 0)) (whom := (List.getD l2 (Int.toNat (0 : Int)) 0)) (Sat.ownAt S 1 rfl) (Sat.ownAt S 0 rfl) (fr.slice (d := 127) rfl) (fr.slice (d := 128) rfl) (fr.int (d := 130) rfl) (fr.int (d := 132) rfl) hc S
                have hv := vok_cl (if List.length (l0 ++ [(List.getD l2 (Int.toNat (0 : Int)) 0)]) = List.length (l1 ++ [(List.getD l2 (Int.toNat (1 : Int)) 0)]) then comesB (List.zip (l0 ++ [(List.getD l2 (Int.toNat (0 : Int)) 0)]) (l1 ++ [(List.getD l2 (Int.toNat (1 : Int)) 0)])) (List.getD l2 (Int.toNat (0 : Int)) 0) (List.getD l2 (Int.toNat (1 : Int)) 0) else false) (List.length (l0 ++ [(List.getD l2 (Int.toNat (0 : Int)) 0)]) = List.length (l1 ++ [(List.getD l2 (Int.toNat (1 : Int)) 0)]))
                rw [hx, hx2] at hv H
                refine wl_call fr rfl rfl rfl rfl en14 H ?_
                clear H
                rintro _ w ⟨rfl, S⟩
                refine ⟨_, rfl, hv, fun a fr => ?_⟩
                refine wl_run orc_ok 5 rfl fr fun a fr => ?_
                refine wpList_nil ?_
                refine then_n ?_
                refine wp_seq ?_
                refine wp_region_lit ?_
                refine wl_run orc_ok 3 rfl fr fun a fr => ?_
                refine wl_split 138 fr rfl h (fun fr h => ?_) (fun fr h => ?_)
                · refine wl_run orc_ok 4 rfl fr fun a fr => ?_
                  refine wl_split 142 fr rfl h (fun fr h => ?_) (fun fr h => ?_)
                  · refine wl_run orc_ok 3 rfl fr fun a fr => ?_
                    refine wl_split 145 fr rfl h (fun fr h => ?_) (fun fr h => ?_)
                    · refine wl_run orc_ok 3 rfl fr fun a fr => ?_
                      refine wl_split 148 fr rfl h (fun fr h => ?_) (fun fr h => ?_)
                      · refine wl_run orc_ok 5 rfl fr fun a fr => ?_
                        refine wpList_nil ?_
                        refine then_n ?_
                        refine wp_ret ?_
                        injection h with h
                        subst h
                        refine ret1 fr rfl rfl ?_
                        exact ⟨rfl, fr.vok (d := 6) rfl, S.mask [false, false, false]⟩
                      · refine wl_run orc_ok 5 rfl fr fun a fr => ?_
                        refine wpList_nil ?_
                        refine then_n ?_
                        refine wp_ret ?_
                        injection h with h
                        subst h
                        refine ret1 fr rfl rfl ?_
                        exact ⟨rfl, fr.vok (d := 6) rfl, S.mask [false, false, false]⟩
                    · cases h
                  · cases h
                · cases h
  exact (key w rfl (Sat.start w)).mono fun e w' ⟨h1, h2, h3⟩ => ⟨h1, h2, S.new h3.below⟩
end Go.Proofs.Ytjdholnlbhkmeaa.Pl
