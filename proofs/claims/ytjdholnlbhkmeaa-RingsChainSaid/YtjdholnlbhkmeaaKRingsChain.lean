/- Walks over the program's functions, printed by a program of this work (wip/tools/shal.py): each call does what the plain function says. -/
import Derived.Test.YtjdholnlbhkmeaaProg
import Derived.Test.YtjdholnlbhkmeaaTx
import Derived.Test.YtjdholnlbhkmeaaSo
import Derived.Test.YtjdholnlbhkmeaaDRingsChain
namespace Go.Proofs.Ytjdholnlbhkmeaa.Pl
open Go Go.RowKit Sx Base Own

def orc : Orc := ⟨[(3, .int .i64), (4, .bool), (5, .int .u8), (22, .slice 23), (23, .int .u32), (37, .array 2 5)],
  [(5, 1), (23, 1)]⟩
theorem orc_ok : orc.Ok Try.prog := ⟨⟨Try.underlying3, Try.underlying4, Try.underlying5, Try.underlying22, Try.underlying23, Try.underlying37, trivial⟩, ⟨by kernel_rfl, by kernel_rfl, trivial⟩⟩
theorem en14 : Enters Try.prog 14 := fun _ _ => by kernel_rfl
theorem en17 : Enters Try.prog 17 := fun _ _ => by kernel_rfl
theorem en18 : Enters Try.prog 18 := fun _ _ => by kernel_rfl
theorem en20 : Enters Try.prog 20 := fun _ _ => by kernel_rfl
theorem en23 : Enters Try.prog 23 := fun _ _ => by kernel_rfl
theorem lit22 : RowTy Try.prog 22 23 .u32 := ⟨Try.underlying22, 4, by decide, by kernel_rfl⟩
set_option maxRecDepth 100000 in
set_option maxHeartbeats 4000000 in
theorem SameIds.walk (k : Nat) (A0 : Option Addr) (c0 : Nat) (l0 : List Int) (A1 : Option Addr) (c1 : Nat) (l1 : List Int) {w0 w : World} {R : List Asn} (rk0 : Rk .u32 w A0 l0) (m0 : l0.length ≤ c0 ∧ c0 ≤ maxLen) (rk1 : Rk .u32 w A1 l1) (m1 : l1.length ≤ c1 ∧ c1 ≤ maxLen) (S : Sat w0 w R) {r : Bool} (h : SameIds.f k l0 l1 = some r) :
    Calls Try.prog 20 #[(.slice A0 (List.length l0) c0), (.slice A1 (List.length l1) c1)] w fun e w' => e = .returned (.bool r) ∧ vok (.bool r) = true ∧ Sat w0 w' R := by
  have key : ∀ w0 : World, w0 = w → Sat w0 w [] → Calls Try.prog 20 #[(.slice A0 (List.length l0) c0), (.slice A1 (List.length l1) c1)] w fun e w' => e = .returned (.bool r) ∧ vok (.bool r) = true ∧ Sat w0 w' [] := by
    clear S
    intro w0 hw S
    rw [← hw] at rk0
    rw [← hw] at rk1
    clear hw
    unfold SameIds.f at h
    refine calls_start (N := 26) [(.slice A0 (List.length l0) c0), (.slice A1 (List.length l1) c1)] Try.func20 rfl rfl rfl (vok_c (vok_sl m0) (vok_c (vok_sl m1) rfl)) fun a fr => ?_
    refine wp_seq ?_
    refine wp_region_lit ?_
    refine wl_run orc_ok 1 rfl fr fun a fr => ?_
    refine wpList_nil ?_
    refine then_n ?_
    refine wp_seq ?_
    refine wp_seq ?_
    refine wp_region_lit ?_
    refine wl_run orc_ok 5 rfl fr fun a fr => ?_
    refine wpList_nil ?_
    refine then_n ?_
    refine cw_if fr rfl h (fun h => ?_) (fun h => ?_)
    · refine wp_seq ?_
      refine wp_region_lit ?_
      refine wl_run orc_ok 1 rfl fr fun a fr => ?_
      refine wpList_nil ?_
      refine then_n ?_
      refine wp_ret ?_
      refine then_r ?_
      injection h with h
      subst h
      refine ret1 fr rfl rfl ?_
      exact ⟨rfl, fr.vok (d := 4) rfl, S.mask []⟩
    · refine wp_skip ?_
      refine then_n ?_
      refine wp_seq ?_
      refine wp_seq ?_
      refine wp_region_lit ?_
      refine wl_run orc_ok 1 rfl fr fun a fr => ?_
      refine wpList_nil ?_
      refine then_n ?_
      refine wp_block ?_
      refine cw_loop (fun k1 a w => ∃ x1 : Int, Fr 26 a [(0, (.slice A0 (List.length l0) c0)), (1, (.slice A1 (List.length l1) c1)), (5, (.int .i64 x1))] ∧ Sat w0 w [] ∧ (SameIds.l1 k1 l0 l1 x1) = some r) k ⟨(0 : Int), fr.sub ⟨rfl, rfl, rfl, trivial⟩, S, h⟩ ?_ ?_
      · rintro a w ⟨x1, -, -, h⟩
        simp only [SameIds.l1] at h
        cases h
      · rintro k1 a w ⟨x1, fr, S, h⟩
        rw [SameIds.l1] at h
        refine wp_seq ?_
        refine wp_seq ?_
        refine wp_region_lit ?_
        refine wl_run orc_ok 4 rfl fr fun a fr => ?_
        refine wpList_nil ?_
        refine then_n ?_
        refine cw_if fr rfl h (fun h => ?_) (fun h => ?_)
        · refine wp_skip ?_
          refine then_n ?_
          refine wp_seq ?_
          refine wp_block ?_
          refine wp_seq ?_
          refine wp_region_sl [.one (0, true, some 17), .one (1, true, some 18), .one (2, true, some 19), .one (3, true, some 20), .one (4, true, some 21), .one (5, true, some 22), .one (6, true, some 23), .one (7, true, some 24), .one (8, true, some 25)]
            [.one ⟨true, some 17, (Go.Op.move (Go.Operand.tmp 0)), 22, none⟩,
    .one ⟨true, some 18, (Go.Op.move (Go.Operand.tmp 5)), 3, none⟩,
    .one ⟨true, some 19, (Go.Op.indexAddr 22 (Go.Operand.tmp 17) (Go.Operand.tmp 18)), 0, none⟩,
    .one ⟨true, some 20, (Go.Op.load 23 (Go.Operand.tmp 19)), 23, none⟩,
    .one ⟨true, some 21, (Go.Op.move (Go.Operand.tmp 1)), 22, none⟩,
    .one ⟨true, some 22, (Go.Op.move (Go.Operand.tmp 5)), 3, none⟩,
    .one ⟨true, some 23, (Go.Op.indexAddr 22 (Go.Operand.tmp 21) (Go.Operand.tmp 22)), 0, none⟩,
    .one ⟨true, some 24, (Go.Op.load 23 (Go.Operand.tmp 23)), 23, none⟩,
    .one ⟨true, some 25, (Go.Op.binOp Go.BinOp.neq 23 (Go.Operand.tmp 20) (Go.Operand.tmp 24) 23), 4, none⟩]
            (fun w => Sat w0 w []) rfl (by kernel_rfl) (by kernel_rfl) (S.drew.mask []) ?_
          have S := S.drew
          refine sl_run orc_ok 2 rfl fr fun a fr => ?_
          obtain ⟨hc, h⟩ := ifs h
          refine sl_ld orc_ok (fun _ S => Rk.at rk0 S) fr rfl rfl rfl rfl rfl rfl rfl rfl rfl rfl rfl rfl rfl rfl rfl rfl rfl rfl hc (Sat.mask S []) fun a fr => ?_
          refine sl_run orc_ok 2 rfl fr fun a fr => ?_
          obtain ⟨hc, h⟩ := ifs h
          refine sl_ld orc_ok (fun _ S => Rk.at rk1 S) fr rfl rfl rfl rfl rfl rfl rfl rfl rfl rfl rfl rfl rfl rfl rfl rfl rfl rfl hc (Sat.mask S []) fun a fr => ?_
          refine sl_run orc_ok 1 rfl fr fun a fr => ?_
          refine sl_end ?_
          refine then_n ?_
          refine cw_if fr rfl h (fun h => ?_) (fun h => ?_)
          · refine wp_seq ?_
            refine wp_region_lit ?_
            refine wl_run orc_ok 1 rfl fr fun a fr => ?_
            refine wpList_nil ?_
            refine then_n ?_
            refine wp_ret ?_
            refine blk_r ?_
            refine then_r ?_
            refine then_r ?_
            refine blk_r ?_
            refine then_r ?_
            injection h with h
            subst h
            refine ret1 fr rfl rfl ?_
            exact ⟨rfl, fr.vok (d := 4) rfl, S.mask []⟩
          · refine wp_skip ?_
            refine blk_n ?_
            refine then_n ?_
            refine wp_region_lit ?_
            refine wl_run orc_ok 3 rfl fr fun a fr => ?_
            refine wpList_nil ?_
            exact ⟨(IntKind.wrap .i64 (x1 + (1 : Int))), fr.sub ⟨rfl, rfl, rfl, trivial⟩, S, h⟩
        · refine wp_exit ?_
          refine then_e ?_
          refine then_e ?_
          refine blk_y ?_
          refine then_n ?_
          refine wp_seq ?_
          refine wp_region_lit ?_
          refine wl_run orc_ok 1 rfl fr fun a fr => ?_
          refine wpList_nil ?_
          refine then_n ?_
          refine wp_ret ?_
          injection h with h
          subst h
          refine ret1 fr rfl rfl ?_
          exact ⟨rfl, fr.vok (d := 4) rfl, S.mask []⟩
  exact (key w rfl (Sat.start w)).mono fun e w' ⟨h1, h2, h3⟩ => ⟨h1, h2, S.new h3.below⟩
set_option maxRecDepth 100000 in
set_option maxHeartbeats 4000000 in
theorem alive.walk (k : Nat)  {w0 w : World} {R : List Asn}  (S : Sat w0 w R) {r : Bool} (h : alive.f k = some r) :
    Calls Try.prog 17 #[] w fun e w' => e = .returned (.bool r) ∧ vok (.bool r) = true ∧ Sat w0 w' R := by
  have key : ∀ w0 : World, w0 = w → Sat w0 w [] → Calls Try.prog 17 #[] w fun e w' => e = .returned (.bool r) ∧ vok (.bool r) = true ∧ Sat w0 w' [] := by
    clear S
    intro w0 hw S
    clear hw
    unfold alive.f at h
    refine calls_start (N := 108) [] Try.func17 rfl rfl rfl rfl fun a fr => ?_
    refine wp_seq ?_
    refine wp_region_lit ?_
    refine wl_run orc_ok 1 rfl fr fun a fr => ?_
    refine wpList_nil ?_
    refine then_n ?_
    refine wp_seq ?_
    refine wp_region_lit ?_
    refine wl_lit (xs := [(1 : Int), (2 : Int)]) orc_ok lit22 fr rfl rfl rfl rfl ⟨rfl, rfl, rfl, rfl, trivial⟩ rfl rfl S ?_
    intro w A1 c2 S
    intro a fr
    have hv := (fr.vok (d := 18) rfl)
    refine wl_call fr rfl rfl rfl rfl en23 (ids_call hv) ?_
    rintro _ w ⟨rfl, hw⟩
    subst hw
    refine ⟨_, rfl, hv, fun a fr => ?_⟩
    refine wl_lit (xs := [(2 : Int), (3 : Int)]) orc_ok lit22 fr rfl rfl rfl rfl ⟨rfl, rfl, rfl, rfl, trivial⟩ rfl rfl S ?_
    intro w A3 c4 S
    intro a fr
    have hv := (fr.vok (d := 20) rfl)
    refine wl_call fr rfl rfl rfl rfl en23 (ids_call hv) ?_
    rintro _ w ⟨rfl, hw⟩
    subst hw
    refine ⟨_, rfl, hv, fun a fr => ?_⟩
    obtain ⟨hc, h⟩ := ifs h
    obtain ⟨y5, hx, h⟩ := lt_h h
    obtain ⟨y6, hx2, h⟩ := lt_h h
    have H := closes_call (A := A1) (c := c2) (l := [(1 : Int), (2 : Int)]) (A1 := A3) (c1 := c4) (l1 := [(2 : Int), (3 : Int)]) (who := (3 : Int)) (whom := (1 : Int)) (Sat.ownAt S 1 rfl) (Sat.ownAt S 0 rfl) (fr.slice (d := 19) rfl) (fr.slice (d := 21) rfl) rfl rfl hc S
    have hv := vok_cl (if List.length [(1 : Int), (2 : Int)] = List.length [(2 : Int), (3 : Int)] then comesB (List.zip [(1 : Int), (2 : Int)] [(2 : Int), (3 : Int)]) (1 : Int) (3 : Int) else false) (List.length [(1 : Int), (2 : Int)] = List.length [(2 : Int), (3 : Int)])
    rw [hx, hx2] at hv H
    refine wl_call fr rfl rfl rfl rfl en14 H ?_
    clear H
    rintro _ w ⟨rfl, S⟩
    refine ⟨_, rfl, hv, fun a fr => ?_⟩
    refine wl_run orc_ok 5 rfl fr fun a fr => ?_
    refine wpList_nil ?_
    refine then_n ?_
    refine wp_seq ?_
    refine wp_region_lit ?_
    refine wl_lit (xs := [(1 : Int), (2 : Int)]) orc_ok lit22 fr rfl rfl rfl rfl ⟨rfl, rfl, rfl, rfl, trivial⟩ rfl rfl S ?_
    intro w A7 c8 S
    intro a fr
    have hv := (fr.vok (d := 26) rfl)
    refine wl_call fr rfl rfl rfl rfl en23 (ids_call hv) ?_
    rintro _ w ⟨rfl, hw⟩
    subst hw
    refine ⟨_, rfl, hv, fun a fr => ?_⟩
    refine wl_lit (xs := [(2 : Int), (3 : Int)]) orc_ok lit22 fr rfl rfl rfl rfl ⟨rfl, rfl, rfl, rfl, trivial⟩ rfl rfl S ?_
    intro w A9 c10 S
    intro a fr
    have hv := (fr.vok (d := 28) rfl)
    refine wl_call fr rfl rfl rfl rfl en23 (ids_call hv) ?_
    rintro _ w ⟨rfl, hw⟩
    subst hw
    refine ⟨_, rfl, hv, fun a fr => ?_⟩
    obtain ⟨hc, h⟩ := ifs h
    obtain ⟨y11, hx, h⟩ := lt_h h
    obtain ⟨y12, hx2, h⟩ := lt_h h
    have H := closes_call (A := A7) (c := c8) (l := [(1 : Int), (2 : Int)]) (A1 := A9) (c1 := c10) (l1 := [(2 : Int), (3 : Int)]) (who := (1 : Int)) (whom := (3 : Int)) (Sat.ownAt S 1 rfl) (Sat.ownAt S 0 rfl) (fr.slice (d := 27) rfl) (fr.slice (d := 29) rfl) rfl rfl hc S
    have hv := vok_cl (if List.length [(1 : Int), (2 : Int)] = List.length [(2 : Int), (3 : Int)] then comesB (List.zip [(1 : Int), (2 : Int)] [(2 : Int), (3 : Int)]) (3 : Int) (1 : Int) else false) (List.length [(1 : Int), (2 : Int)] = List.length [(2 : Int), (3 : Int)])
    rw [hx, hx2] at hv H
    refine wl_call fr rfl rfl rfl rfl en14 H ?_
    clear H
    rintro _ w ⟨rfl, S⟩
    refine ⟨_, rfl, hv, fun a fr => ?_⟩
    refine wl_run orc_ok 5 rfl fr fun a fr => ?_
    refine wpList_nil ?_
    refine then_n ?_
    refine wp_seq ?_
    refine wp_region_lit ?_
    obtain ⟨hc, h⟩ := ifs h
    obtain ⟨y13, hx, h⟩ := lt_h h
    obtain ⟨y14, hx2, h⟩ := lt_h h
    have H := closes_call (A := none) (c := 0) (l := ([] : List Int)) (A1 := none) (c1 := 0) (l1 := ([] : List Int)) (who := (5 : Int)) (whom := (5 : Int)) Rk.nil Rk.nil ⟨Nat.le_refl _, Nat.zero_le _⟩ ⟨Nat.le_refl _, Nat.zero_le _⟩ rfl rfl hc S
    have hv := vok_cl (if List.length ([] : List Int) = List.length ([] : List Int) then comesB (List.zip ([] : List Int) ([] : List Int)) (5 : Int) (5 : Int) else false) (List.length ([] : List Int) = List.length ([] : List Int))
    rw [hx, hx2] at hv H
    refine wl_call fr rfl rfl rfl rfl en14 H ?_
    clear H
    rintro _ w ⟨rfl, S⟩
    refine ⟨_, rfl, hv, fun a fr => ?_⟩
    refine wl_run orc_ok 5 rfl fr fun a fr => ?_
    refine wpList_nil ?_
    refine then_n ?_
    refine wp_seq ?_
    refine wp_region_lit ?_
    refine wl_lit (xs := [(1 : Int)]) orc_ok lit22 fr rfl rfl rfl rfl ⟨rfl, rfl, trivial⟩ rfl rfl S ?_
    intro w A15 c16 S
    intro a fr
    have hv := (fr.vok (d := 38) rfl)
    refine wl_call fr rfl rfl rfl rfl en23 (ids_call hv) ?_
    rintro _ w ⟨rfl, hw⟩
    subst hw
    refine ⟨_, rfl, hv, fun a fr => ?_⟩
    obtain ⟨hc, h⟩ := ifs h
    obtain ⟨y17, hx, h⟩ := lt_h h
    obtain ⟨y18, hx2, h⟩ := lt_h h
    have H := closes_call (A := A15) (c := c16) (l := [(1 : Int)]) (A1 := none) (c1 := 0) (l1 := ([] : List Int)) (who := (1 : Int)) (whom := (2 : Int)) (Sat.ownAt S 0 rfl) Rk.nil (fr.slice (d := 39) rfl) ⟨Nat.le_refl _, Nat.zero_le _⟩ rfl rfl hc S
    have hv := vok_cl (if List.length [(1 : Int)] = List.length ([] : List Int) then comesB (List.zip [(1 : Int)] ([] : List Int)) (2 : Int) (1 : Int) else false) (List.length [(1 : Int)] = List.length ([] : List Int))
    rw [hx, hx2] at hv H
    refine wl_call fr rfl rfl rfl rfl en14 H ?_
    clear H
    rintro _ w ⟨rfl, S⟩
    refine ⟨_, rfl, hv, fun a fr => ?_⟩
    refine wl_run orc_ok 5 rfl fr fun a fr => ?_
    refine wpList_nil ?_
    refine then_n ?_
    refine wp_seq ?_
    refine wp_region_lit ?_
    refine wl_lit (xs := [(1 : Int), (2 : Int), (5 : Int)]) orc_ok lit22 fr rfl rfl rfl rfl ⟨rfl, rfl, rfl, rfl, rfl, rfl, trivial⟩ rfl rfl S ?_
    intro w A19 c20 S
    intro a fr
    have hv := (fr.vok (d := 44) rfl)
    refine wl_call fr rfl rfl rfl rfl en23 (ids_call hv) ?_
    rintro _ w ⟨rfl, hw⟩
    subst hw
    refine ⟨_, rfl, hv, fun a fr => ?_⟩
    refine wl_lit (xs := [(2 : Int), (3 : Int), (3 : Int)]) orc_ok lit22 fr rfl rfl rfl rfl ⟨rfl, rfl, rfl, rfl, rfl, rfl, trivial⟩ rfl rfl S ?_
    intro w A21 c22 S
    intro a fr
    have hv := (fr.vok (d := 46) rfl)
    refine wl_call fr rfl rfl rfl rfl en23 (ids_call hv) ?_
    rintro _ w ⟨rfl, hw⟩
    subst hw
    refine ⟨_, rfl, hv, fun a fr => ?_⟩
    obtain ⟨hc, h⟩ := ifs h
    obtain ⟨o23, hx, h⟩ := lt_h h
    have H := order_call (A := A19) (c := c20) (l := [(1 : Int), (2 : Int), (5 : Int)]) (A1 := A21) (c1 := c22) (l1 := [(2 : Int), (3 : Int), (3 : Int)]) (Sat.ownAt S 1 rfl) (Sat.ownAt S 0 rfl) (fr.slice (d := 45) rfl) (fr.slice (d := 47) rfl) hc S
    rw [hx] at H
    refine wl_call fr rfl rfl rfl rfl en18 H ?_
    clear H
    rintro _ w ⟨A24, c25, rfl, hv, S⟩
    refine ⟨_, rfl, hv, fun a fr => ?_⟩
    refine wl_run orc_ok 5 rfl fr fun a fr => ?_
    refine wpList_nil ?_
    refine then_n ?_
    refine wp_seq ?_
    refine wp_region_lit ?_
    refine wl_lit (xs := [(1 : Int), (2 : Int)]) orc_ok lit22 fr rfl rfl rfl rfl ⟨rfl, rfl, rfl, rfl, trivial⟩ rfl rfl S ?_
    intro w A26 c27 S
    intro a fr
    have hv := (fr.vok (d := 52) rfl)
    refine wl_call fr rfl rfl rfl rfl en23 (ids_call hv) ?_
    rintro _ w ⟨rfl, hw⟩
    subst hw
    refine ⟨_, rfl, hv, fun a fr => ?_⟩
    refine wl_lit (xs := [(2 : Int), (1 : Int)]) orc_ok lit22 fr rfl rfl rfl rfl ⟨rfl, rfl, rfl, rfl, trivial⟩ rfl rfl S ?_
    intro w A28 c29 S
    intro a fr
    have hv := (fr.vok (d := 54) rfl)
    refine wl_call fr rfl rfl rfl rfl en23 (ids_call hv) ?_
    rintro _ w ⟨rfl, hw⟩
    subst hw
    refine ⟨_, rfl, hv, fun a fr => ?_⟩
    obtain ⟨hc, h⟩ := ifs h
    obtain ⟨o30, hx, h⟩ := lt_h h
    have H := order_call (A := A26) (c := c27) (l := [(1 : Int), (2 : Int)]) (A1 := A28) (c1 := c29) (l1 := [(2 : Int), (1 : Int)]) (Sat.ownAt S 1 rfl) (Sat.ownAt S 0 rfl) (fr.slice (d := 53) rfl) (fr.slice (d := 55) rfl) hc S
    rw [hx] at H
    refine wl_call fr rfl rfl rfl rfl en18 H ?_
    clear H
    rintro _ w ⟨A31, c32, rfl, hv, S⟩
    refine ⟨_, rfl, hv, fun a fr => ?_⟩
    refine wl_run orc_ok 5 rfl fr fun a fr => ?_
    refine wpList_nil ?_
    refine then_n ?_
    refine wp_seq ?_
    refine wp_region_lit ?_
    refine wl_lit (xs := [(1 : Int)]) orc_ok lit22 fr rfl rfl rfl rfl ⟨rfl, rfl, trivial⟩ rfl rfl S ?_
    intro w A33 c34 S
    intro a fr
    have hv := (fr.vok (d := 60) rfl)
    refine wl_call fr rfl rfl rfl rfl en23 (ids_call hv) ?_
    rintro _ w ⟨rfl, hw⟩
    subst hw
    refine ⟨_, rfl, hv, fun a fr => ?_⟩
    refine wl_lit (xs := [(1 : Int)]) orc_ok lit22 fr rfl rfl rfl rfl ⟨rfl, rfl, trivial⟩ rfl rfl S ?_
    intro w A35 c36 S
    intro a fr
    have hv := (fr.vok (d := 62) rfl)
    refine wl_call fr rfl rfl rfl rfl en23 (ids_call hv) ?_
    rintro _ w ⟨rfl, hw⟩
    subst hw
    refine ⟨_, rfl, hv, fun a fr => ?_⟩
    obtain ⟨hc, h⟩ := ifs h
    obtain ⟨o37, hx, h⟩ := lt_h h
    have H := order_call (A := A33) (c := c34) (l := [(1 : Int)]) (A1 := A35) (c1 := c36) (l1 := [(1 : Int)]) (Sat.ownAt S 1 rfl) (Sat.ownAt S 0 rfl) (fr.slice (d := 61) rfl) (fr.slice (d := 63) rfl) hc S
    rw [hx] at H
    refine wl_call fr rfl rfl rfl rfl en18 H ?_
    clear H
    rintro _ w ⟨A38, c39, rfl, hv, S⟩
    refine ⟨_, rfl, hv, fun a fr => ?_⟩
    refine wl_run orc_ok 5 rfl fr fun a fr => ?_
    refine wpList_nil ?_
    refine then_n ?_
    refine wp_seq ?_
    refine wp_region_lit ?_
    obtain ⟨hc, h⟩ := ifs h
    obtain ⟨o40, hx, h⟩ := lt_h h
    have H := order_call (A := none) (c := 0) (l := ([] : List Int)) (A1 := none) (c1 := 0) (l1 := ([] : List Int)) Rk.nil Rk.nil ⟨Nat.le_refl _, Nat.zero_le _⟩ ⟨Nat.le_refl _, Nat.zero_le _⟩ hc S
    rw [hx] at H
    refine wl_call fr rfl rfl rfl rfl en18 H ?_
    clear H
    rintro _ w ⟨A41, c42, rfl, hv, S⟩
    refine ⟨_, rfl, hv, fun a fr => ?_⟩
    refine wl_run orc_ok 5 rfl fr fun a fr => ?_
    refine wpList_nil ?_
    refine then_n ?_
    refine wp_seq ?_
    refine wp_region_lit ?_
    refine wl_run orc_ok 2 rfl fr fun a fr => ?_
    refine wl_split 72 fr rfl h (fun fr h => ?_) (fun fr h => ?_)
    · refine wl_run orc_ok 4 rfl fr fun a fr => ?_
      refine wl_split 76 fr rfl h (fun fr h => ?_) (fun fr h => ?_)
      · refine wl_run orc_ok 3 rfl fr fun a fr => ?_
        refine wl_split 79 fr rfl h (fun fr h => ?_) (fun fr h => ?_)
        · refine wl_run orc_ok 4 rfl fr fun a fr => ?_
          refine wl_split 83 fr rfl h (fun fr h => ?_) (fun fr h => ?_)
          · refine wl_run orc_ok 3 rfl fr fun a fr => ?_
            refine wl_split 86 fr rfl h (fun fr h => ?_) (fun fr h => ?_)
            · refine wl_run orc_ok 1 rfl fr fun a fr => ?_
              refine wl_lit (xs := [(3 : Int), (2 : Int), (1 : Int), (5 : Int)]) orc_ok lit22 fr rfl rfl rfl rfl ⟨rfl, rfl, rfl, rfl, rfl, rfl, rfl, rfl, trivial⟩ rfl rfl S ?_
              intro w A43 c44 S
              intro a fr
              have hv := (fr.vok (d := 88) rfl)
              refine wl_call fr rfl rfl rfl rfl en23 (ids_call hv) ?_
              rintro _ w ⟨rfl, hw⟩
              subst hw
              refine ⟨_, rfl, hv, fun a fr => ?_⟩
              obtain ⟨r45, hr, h⟩ := bnd h
              refine wl_call fr rfl rfl rfl rfl en20 (SameIds.walk k A24 c25 (Option.getD o23 []) A43 c44 [(3 : Int), (2 : Int), (1 : Int), (5 : Int)] (Sat.ownAt S 8 rfl) (fr.slice (d := 87) rfl) (Sat.ownAt S 0 rfl) (fr.slice (d := 89) rfl) S hr) ?_
              rintro _ w ⟨rfl, hv, S⟩
              refine ⟨_, rfl, hv, fun a fr => ?_⟩
              refine wl_run orc_ok 2 rfl fr fun a fr => ?_
              refine wl_split 92 fr rfl h (fun fr h => ?_) (fun fr h => ?_)
              · refine wl_run orc_ok 4 rfl fr fun a fr => ?_
                refine wl_split 96 fr rfl h (fun fr h => ?_) (fun fr h => ?_)
                · refine wl_run orc_ok 4 rfl fr fun a fr => ?_
                  refine wl_split 100 fr rfl h (fun fr h => ?_) (fun fr h => ?_)
                  · refine wl_run orc_ok 3 rfl fr fun a fr => ?_
                    refine wl_split 103 fr rfl h (fun fr h => ?_) (fun fr h => ?_)
                    · refine wl_run orc_ok 5 rfl fr fun a fr => ?_
                      obtain ⟨y46, hx, h⟩ := lt_h h
                      have fr := fr.spell (d := 0) rfl (congrArg Value.bool hx)
                      refine wpList_nil ?_
                      refine then_n ?_
                      refine wp_ret ?_
                      injection h with h
                      subst h
                      refine ret1 fr rfl rfl ?_
                      exact ⟨rfl, fr.vok (d := 0) rfl, S.mask [false, false, false, false, false, false, false, false, false, false, false, false, false, false, false, false]⟩
                    · refine wl_run orc_ok 5 rfl fr fun a fr => ?_
                      refine wpList_nil ?_
                      refine then_n ?_
                      refine wp_ret ?_
                      injection h with h
                      subst h
                      refine ret1 fr rfl rfl ?_
                      exact ⟨rfl, fr.vok (d := 0) rfl, S.mask [false, false, false, false, false, false, false, false, false, false, false, false, false, false, false, false]⟩
                  · refine wl_run orc_ok 8 rfl fr fun a fr => ?_
                    refine wpList_nil ?_
                    refine then_n ?_
                    refine wp_ret ?_
                    injection h with h
                    subst h
                    refine ret1 fr rfl rfl ?_
                    exact ⟨rfl, fr.vok (d := 0) rfl, S.mask [false, false, false, false, false, false, false, false, false, false, false, false, false, false, false, false]⟩
                · refine wl_run orc_ok 12 rfl fr fun a fr => ?_
                  refine wpList_nil ?_
                  refine then_n ?_
                  refine wp_ret ?_
                  injection h with h
                  subst h
                  refine ret1 fr rfl rfl ?_
                  exact ⟨rfl, fr.vok (d := 0) rfl, S.mask [false, false, false, false, false, false, false, false, false, false, false, false, false, false, false, false]⟩
              · refine wl_run orc_ok 16 rfl fr fun a fr => ?_
                refine wpList_nil ?_
                refine then_n ?_
                refine wp_ret ?_
                injection h with h
                subst h
                refine ret1 fr rfl rfl ?_
                exact ⟨rfl, fr.vok (d := 0) rfl, S.mask [false, false, false, false, false, false, false, false, false, false, false, false, false, false, false, false]⟩
            · refine wl_run orc_ok 22 rfl fr fun a fr => ?_
              refine wpList_nil ?_
              refine then_n ?_
              refine wp_ret ?_
              injection h with h
              subst h
              refine ret1 fr rfl rfl ?_
              exact ⟨rfl, fr.vok (d := 0) rfl, S.mask [false, false, false, false, false, false, false, false, false, false, false, false, false, false, false]⟩
          · refine wl_run orc_ok 25 rfl fr fun a fr => ?_
            refine wpList_nil ?_
            refine then_n ?_
            refine wp_ret ?_
            injection h with h
            subst h
            refine ret1 fr rfl rfl ?_
            exact ⟨rfl, fr.vok (d := 0) rfl, S.mask [false, false, false, false, false, false, false, false, false, false, false, false, false, false, false]⟩
        · refine wl_run orc_ok 29 rfl fr fun a fr => ?_
          refine wpList_nil ?_
          refine then_n ?_
          refine wp_ret ?_
          injection h with h
          subst h
          refine ret1 fr rfl rfl ?_
          exact ⟨rfl, fr.vok (d := 0) rfl, S.mask [false, false, false, false, false, false, false, false, false, false, false, false, false, false, false]⟩
      · refine wl_run orc_ok 32 rfl fr fun a fr => ?_
        refine wpList_nil ?_
        refine then_n ?_
        refine wp_ret ?_
        injection h with h
        subst h
        refine ret1 fr rfl rfl ?_
        exact ⟨rfl, fr.vok (d := 0) rfl, S.mask [false, false, false, false, false, false, false, false, false, false, false, false, false, false, false]⟩
    · refine wl_run orc_ok 36 rfl fr fun a fr => ?_
      refine wpList_nil ?_
      refine then_n ?_
      refine wp_ret ?_
      injection h with h
      subst h
      refine ret1 fr rfl rfl ?_
      exact ⟨rfl, fr.vok (d := 0) rfl, S.mask [false, false, false, false, false, false, false, false, false, false, false, false, false, false, false]⟩
  exact (key w rfl (Sat.start w)).mono fun e w' ⟨h1, h2, h3⟩ => ⟨h1, h2, S.new h3.below⟩
set_option maxRecDepth 100000 in
set_option maxHeartbeats 4000000 in
theorem RingsChain.walk (k : Nat) (a0 : Int) (l1 : List Int) (a2 : Int) {w0 w : World} {R : List Asn} (v0 : (Lit.int .u8 a0).wf = true) (n1 : l1.length = 2) (v1 : ∀ z ∈ l1, (Lit.int .u8 z).wf = true) (v2 : (Lit.int .u32 a2).wf = true) (S : Sat w0 w R) {r : Bool} (h : RingsChain.f k a0 l1 a2 = some r) :
    Calls Try.prog 7 #[(.int .u8 a0), (.agg (List.map (Value.int .u8) l1).toArray), (.int .u32 a2)] w fun e w' => e = .returned (.bool r) ∧ vok (.bool r) = true ∧ Sat w0 w' R := by
  have key : ∀ w0 : World, w0 = w → Sat w0 w [] → Calls Try.prog 7 #[(.int .u8 a0), (.agg (List.map (Value.int .u8) l1).toArray), (.int .u32 a2)] w fun e w' => e = .returned (.bool r) ∧ vok (.bool r) = true ∧ Sat w0 w' [] := by
    clear S
    intro w0 hw S
    clear hw
    unfold RingsChain.f at h
    refine calls_start (N := 132) [(.int .u8 a0), (.agg (List.map (Value.int .u8) l1).toArray), (.int .u32 a2)] Try.func7 rfl rfl rfl (vok_c v0 (vok_c (vok_ag v1) (vok_c v2 rfl))) fun a fr => ?_
    refine wp_seq ?_
    refine wp_region_lit ?_
    refine wl_box fr rfl rfl rfl rfl rfl n1 (fun _ => rfl) S ?_
    intro w g1 S a fr
    refine wl_run orc_ok 1 rfl fr fun a fr => ?_
    refine wpList_nil ?_
    refine then_n ?_
    refine wp_seq ?_
    refine wp_region_lit ?_
    refine wl_run orc_ok 5 rfl fr fun a fr => ?_
    obtain ⟨y2, hx, h⟩ := lt_h h
    have fr := fr.spell (d := 7) rfl (congrArg (Value.int .i64) hx)
    refine wpList_nil ?_
    refine then_n ?_
    refine wp_seq ?_
    refine wp_region_lit ?_
    refine wl_run orc_ok 2 rfl fr fun a fr => ?_
    refine wpList_nil ?_
    refine then_n ?_
    refine wp_seq ?_
    refine wp_seq ?_
    refine wp_region_lit ?_
    refine wl_run orc_ok 1 rfl fr fun a fr => ?_
    refine wpList_nil ?_
    refine then_n ?_
    refine wp_block ?_
    have S : Sat w0 _ [ownA .u32 23 none 0 ([] : List Int), arrA (Value.int .u8) 37 2 g1 l1] := S.nilRow .u32 23
    have S : Sat w0 _ [ownA .u32 23 none 0 ([] : List Int), ownA .u32 23 none 0 ([] : List Int), arrA (Value.int .u8) 37 2 g1 l1] := S.nilRow .u32 23
    refine cw_loop (fun k1 a w => ∃ A3 : Option Addr, ∃ c4 : Nat, ∃ l5 : List Int, ∃ A6 : Option Addr, ∃ c7 : Nat, ∃ l8 : List Int, ∃ x9 : Int, Fr 132 a [(2, (.int .u32 a2)), (4, (.pointer (some ⟨g1, 0, none⟩))), (7, (.int .i64 y2)), (8, (.slice A6 (List.length l8) c7)), (9, (.slice A3 (List.length l5) c4)), (10, (.int .i64 x9))] ∧ Sat w0 w [ownA .u32 23 A3 c4 l5, ownA .u32 23 A6 c7 l8, arrA (Value.int .u8) 37 2 g1 l1] ∧ (RingsChain.l1 k1 y2 a2 l1 l5 l8 x9) = some r) k ⟨none, 0, ([] : List Int), none, 0, ([] : List Int), (0 : Int), fr.sub ⟨rfl, rfl, rfl, rfl, rfl, rfl, trivial⟩, S, h⟩ ?_ ?_
    · rintro a w ⟨A3, c4, l5, A6, c7, l8, x9, -, -, h⟩
      simp only [RingsChain.l1] at h
      cases h
    · rintro k1 a w ⟨A3, c4, l5, A6, c7, l8, x9, fr, S, h⟩
      rw [RingsChain.l1] at h
      refine wp_seq ?_
      refine wp_seq ?_
      refine wp_region_lit ?_
      refine wl_run orc_ok 4 rfl fr fun a fr => ?_
      refine wpList_nil ?_
      refine then_n ?_
      refine cw_if fr rfl h (fun h => ?_) (fun h => ?_)
      · refine wp_skip ?_
        refine then_n ?_
        refine wp_seq ?_
        refine wp_block ?_
        refine wp_seq ?_
        refine wp_region_lit ?_
        refine wl_run orc_ok 5 rfl fr fun a fr => ?_
        refine wl_lit (xs := [(IntKind.wrap .u32 (a2 + (IntKind.wrap .u32 x9)))]) orc_ok lit22 fr rfl rfl rfl rfl ⟨rfl, rfl, trivial⟩ rfl rfl S ?_
        intro w A17 c18 S
        intro a fr
        obtain ⟨hc, h⟩ := ifs h
        have S : Sat w0 _ [ownA .u32 23 A6 c7 l8, ownA .u32 23 A17 c18 [(IntKind.wrap .u32 (a2 + (IntKind.wrap .u32 x9)))], ownA .u32 23 A3 c4 l5, arrA (Value.int .u8) 37 2 g1 l1] := S.frontAt 2 rfl
        have hy := (Sat.ownAt S 1 rfl)
        refine wl_app lit22 fr rfl rfl rfl rfl rfl rfl rfl rfl hy hc S ?_
        intro w A19 c20 S
        have S : Sat w0 _ [ownA .u32 23 A19 c20 (l8 ++ [(IntKind.wrap .u32 (a2 + (IntKind.wrap .u32 x9)))]), ownA .u32 23 A3 c4 l5, arrA (Value.int .u8) 37 2 g1 l1] := S.mask [true, false, true, true]
        intro a fr
        refine wl_run orc_ok 1 rfl fr fun a fr => ?_
        refine wpList_nil ?_
        refine then_n ?_
        refine wp_region_lit ?_
        refine wl_run orc_ok 6 rfl fr fun a fr => ?_
        refine wl_lit (xs := [(IntKind.wrap .u32 ((IntKind.wrap .u32 (a2 + (IntKind.wrap .u32 x9))) + (1 : Int)))]) orc_ok lit22 fr rfl rfl rfl rfl ⟨rfl, rfl, trivial⟩ rfl rfl S ?_
        intro w A21 c22 S
        intro a fr
        obtain ⟨hc, h⟩ := ifs h
        have S : Sat w0 _ [ownA .u32 23 A3 c4 l5, ownA .u32 23 A21 c22 [(IntKind.wrap .u32 ((IntKind.wrap .u32 (a2 + (IntKind.wrap .u32 x9))) + (1 : Int)))], ownA .u32 23 A19 c20 (l8 ++ [(IntKind.wrap .u32 (a2 + (IntKind.wrap .u32 x9)))]), arrA (Value.int .u8) 37 2 g1 l1] := S.frontAt 2 rfl
        have hy := (Sat.ownAt S 1 rfl)
        refine wl_app lit22 fr rfl rfl rfl rfl rfl rfl rfl rfl hy hc S ?_
        intro w A23 c24 S
        have S : Sat w0 _ [ownA .u32 23 A23 c24 (l5 ++ [(IntKind.wrap .u32 ((IntKind.wrap .u32 (a2 + (IntKind.wrap .u32 x9))) + (1 : Int)))]), ownA .u32 23 A19 c20 (l8 ++ [(IntKind.wrap .u32 (a2 + (IntKind.wrap .u32 x9)))]), arrA (Value.int .u8) 37 2 g1 l1] := S.mask [true, false, true, true]
        intro a fr
        refine wl_run orc_ok 1 rfl fr fun a fr => ?_
        refine wpList_nil ?_
        refine blk_n ?_
        refine then_n ?_
        refine wp_region_lit ?_
        refine wl_run orc_ok 3 rfl fr fun a fr => ?_
        refine wpList_nil ?_
        exact ⟨A23, c24, (l5 ++ [(IntKind.wrap .u32 ((IntKind.wrap .u32 (a2 + (IntKind.wrap .u32 x9))) + (1 : Int)))]), A19, c20, (l8 ++ [(IntKind.wrap .u32 (a2 + (IntKind.wrap .u32 x9)))]), (IntKind.wrap .i64 (x9 + (1 : Int))), fr.sub ⟨rfl, rfl, rfl, rfl, rfl, rfl, trivial⟩, S, h⟩
      · refine wp_exit ?_
        refine then_e ?_
        refine then_e ?_
        refine blk_y ?_
        refine then_n ?_
        refine wp_seq ?_
        refine wp_region_lit ?_
        obtain ⟨hc, h⟩ := ifs h
        refine wl_lda orc_ok 0 (Sat.arrAt S 2 rfl) fr rfl rfl rfl rfl rfl rfl rfl rfl rfl rfl rfl rfl rfl rfl rfl rfl hc fun a fr => ?_
        refine wl_run orc_ok 2 rfl fr fun a fr => ?_
        obtain ⟨hc, h⟩ := ifs h
        refine wl_pv orc_ok fr rfl rfl rfl (po_rem rfl rfl rfl hc) fun a fr => ?_
        refine wl_run orc_ok 2 rfl fr fun a fr => ?_
        obtain ⟨y25, hx, h⟩ := lt_h h
        have fr := fr.spell (d := 11) rfl (congrArg (Value.int .u32) hx)
        refine wpList_nil ?_
        refine then_n ?_
        refine wp_seq ?_
        refine wp_region_lit ?_
        obtain ⟨hc, h⟩ := ifs h
        refine wl_lda orc_ok 0 (Sat.arrAt S 2 rfl) fr rfl rfl rfl rfl rfl rfl rfl rfl rfl rfl rfl rfl rfl rfl rfl rfl hc fun a fr => ?_
        refine wl_run orc_ok 2 rfl fr fun a fr => ?_
        obtain ⟨hc, h⟩ := ifs h
        refine wl_pv orc_ok fr rfl rfl rfl (po_rem rfl rfl rfl hc) fun a fr => ?_
        refine wl_run orc_ok 2 rfl fr fun a fr => ?_
        obtain ⟨y26, hx, h⟩ := lt_h h
        have fr := fr.spell (d := 12) rfl (congrArg (Value.int .u32) hx)
        refine wpList_nil ?_
        refine then_n ?_
        refine wp_seq ?_
        refine wp_region_lit ?_
        refine wl_run orc_ok 8 rfl fr fun a fr => ?_
        obtain ⟨hc, h⟩ := ifs h
        obtain ⟨y27, hx, h⟩ := lt_h h
        obtain ⟨y28, hx2, h⟩ := lt_h h
        have H := closes_call (A := A6) (c := c7) (l := l8) (A1 := A3) (c1 := c4) (l1 := l5) (who := (IntKind.wrap .u32 (a2 + y26))) (whom := (IntKind.wrap .u32 (a2 + y25))) (Sat.ownAt S 1 rfl) (Sat.ownAt S 0 rfl) (fr.slice (d := 58) rfl) (fr.slice (d := 59) rfl) (fr.int (d := 62) rfl) (fr.int (d := 65) rfl) hc S
        have hv := vok_cl (if List.length l8 = List.length l5 then comesB (List.zip l8 l5) (IntKind.wrap .u32 (a2 + y25)) (IntKind.wrap .u32 (a2 + y26)) else false) (List.length l8 = List.length l5)
        rw [hx, hx2] at hv H
        refine wl_call fr rfl rfl rfl rfl en14 H ?_
        clear H
        rintro _ w ⟨rfl, S⟩
        refine ⟨_, rfl, hv, fun a fr => ?_⟩
        refine wl_run orc_ok 5 rfl fr fun a fr => ?_
        refine wpList_nil ?_
        refine then_n ?_
        refine wp_seq ?_
        refine wp_region_lit ?_
        refine wl_run orc_ok 2 rfl fr fun a fr => ?_
        obtain ⟨hc, h⟩ := ifs h
        obtain ⟨o29, hx, h⟩ := lt_h h
        have H := order_call (A := A6) (c := c7) (l := l8) (A1 := A3) (c1 := c4) (l1 := l5) (Sat.ownAt S 1 rfl) (Sat.ownAt S 0 rfl) (fr.slice (d := 70) rfl) (fr.slice (d := 71) rfl) hc S
        rw [hx] at H
        refine wl_call fr rfl rfl rfl rfl en18 H ?_
        clear H
        rintro _ w ⟨A30, c31, rfl, hv, S⟩
        refine ⟨_, rfl, hv, fun a fr => ?_⟩
        refine wl_run orc_ok 5 rfl fr fun a fr => ?_
        refine wpList_nil ?_
        refine then_n ?_
        refine wp_seq ?_
        refine wp_seq ?_
        refine wp_region_lit ?_
        refine wl_run orc_ok 3 rfl fr fun a fr => ?_
        refine wl_split 77 fr rfl h (fun fr h => ?_) (fun fr h => ?_)
        · cases h
        · refine wl_run orc_ok 7 rfl fr fun a fr => ?_
          refine wl_split 84 fr rfl h (fun fr h => ?_) (fun fr h => ?_)
          · cases h
          · refine wl_run orc_ok 4 rfl fr fun a fr => ?_
            refine wl_split 88 fr rfl h (fun fr h => ?_) (fun fr h => ?_)
            · cases h
            · refine wl_run orc_ok 5 rfl fr fun a fr => ?_
              refine wpList_nil ?_
              refine then_n ?_
              refine cw_if fr rfl h (fun h => ?_) (fun h => ?_)
              · cases h
              · refine wp_skip ?_
                refine then_n ?_
                refine wp_seq ?_
                refine wp_seq ?_
                refine wp_region_lit ?_
                refine wl_run orc_ok 1 rfl fr fun a fr => ?_
                refine wpList_nil ?_
                refine then_n ?_
                refine wp_block ?_
                have S : Sat w0 _ [ownA .u32 23 A30 c31 (Option.getD o29 []), ownA .u32 23 A3 c4 l5, ownA .u32 23 A6 c7 l8] := S.mask [true, true, true, false]
                have S : Sat w0 _ [ownA .u32 23 A6 c7 l8, ownA .u32 23 A30 c31 (Option.getD o29 []), ownA .u32 23 A3 c4 l5] := S.frontAt 2 rfl
                have S : Sat w0 _ [ownA .u32 23 A3 c4 l5, ownA .u32 23 A6 c7 l8, ownA .u32 23 A30 c31 (Option.getD o29 [])] := S.frontAt 2 rfl
                have S : Sat w0 _ [ownA .u32 23 A30 c31 (Option.getD o29 []), ownA .u32 23 A3 c4 l5, ownA .u32 23 A6 c7 l8] := S.frontAt 2 rfl
                refine cw_loop (fun k2 a w => ∃ x32 : Int, Fr 132 a [(2, (.int .u32 a2)), (7, (.int .i64 y2)), (8, (.slice A6 (List.length l8) c7)), (9, (.slice A3 (List.length l5) c4)), (15, (.slice A30 (List.length (Option.getD o29 [])) c31)), (17, (.int .i64 x32))] ∧ Sat w0 w [ownA .u32 23 A30 c31 (Option.getD o29 []), ownA .u32 23 A3 c4 l5, ownA .u32 23 A6 c7 l8] ∧ (RingsChain.l2 k2 y2 o29 a2 l8 l5 x32) = some r) k1 ⟨(0 : Int), fr.sub ⟨rfl, rfl, rfl, rfl, rfl, rfl, trivial⟩, S, h⟩ ?_ ?_
                · rintro a w ⟨x32, -, -, h⟩
                  simp only [RingsChain.l2] at h
                  cases h
                · rintro k2 a w ⟨x32, fr, S, h⟩
                  rw [RingsChain.l2] at h
                  refine wp_seq ?_
                  refine wp_seq ?_
                  refine wp_region_lit ?_
                  refine wl_run orc_ok 3 rfl fr fun a fr => ?_
                  refine wpList_nil ?_
                  refine then_n ?_
                  refine cw_if fr rfl h (fun h => ?_) (fun h => ?_)
                  · refine wp_skip ?_
                    refine then_n ?_
                    refine wp_seq ?_
                    refine wp_block ?_
                    refine wp_seq ?_
                    refine wp_region_lit ?_
                    refine wl_run orc_ok 2 rfl fr fun a fr => ?_
                    obtain ⟨hc, h⟩ := ifs h
                    refine wl_ld orc_ok (Sat.ownAt S 0 rfl) fr rfl rfl rfl rfl rfl rfl rfl rfl rfl rfl rfl rfl rfl rfl rfl rfl hc fun a fr => ?_
                    refine wl_run orc_ok 8 rfl fr fun a fr => ?_
                    refine wpList_nil ?_
                    refine then_n ?_
                    refine cw_if fr rfl h (fun h => ?_) (fun h => ?_)
                    · cases h
                    · refine wp_skip ?_
                      refine blk_n ?_
                      refine then_n ?_
                      refine wp_region_lit ?_
                      refine wl_run orc_ok 3 rfl fr fun a fr => ?_
                      refine wpList_nil ?_
                      exact ⟨(IntKind.wrap .i64 (x32 + (1 : Int))), fr.sub ⟨rfl, rfl, rfl, rfl, rfl, rfl, trivial⟩, S, h⟩
                  · refine wp_exit ?_
                    refine then_e ?_
                    refine then_e ?_
                    refine blk_y ?_
                    refine then_n ?_
                    refine wp_seq ?_
                    refine wp_region_lit ?_
                    refine wl_run orc_ok 6 rfl fr fun a fr => ?_
                    refine wl_lit (xs := [(IntKind.wrap .u32 ((IntKind.wrap .u32 (a2 + (IntKind.wrap .u32 y2))) - (1 : Int)))]) orc_ok lit22 fr rfl rfl rfl rfl ⟨rfl, rfl, trivial⟩ rfl rfl S ?_
                    intro w A34 c35 S
                    intro a fr
                    obtain ⟨hc, h⟩ := ifs h
                    have S : Sat w0 _ [ownA .u32 23 A6 c7 l8, ownA .u32 23 A34 c35 [(IntKind.wrap .u32 ((IntKind.wrap .u32 (a2 + (IntKind.wrap .u32 y2))) - (1 : Int)))], ownA .u32 23 A30 c31 (Option.getD o29 []), ownA .u32 23 A3 c4 l5] := S.frontAt 3 rfl
                    have hy := (Sat.ownAt S 1 rfl)
                    refine wl_app lit22 fr rfl rfl rfl rfl rfl rfl rfl rfl hy hc S ?_
                    intro w A36 c37 S
                    have S : Sat w0 _ [ownA .u32 23 A36 c37 (l8 ++ [(IntKind.wrap .u32 ((IntKind.wrap .u32 (a2 + (IntKind.wrap .u32 y2))) - (1 : Int)))]), ownA .u32 23 A30 c31 (Option.getD o29 []), ownA .u32 23 A3 c4 l5] := S.mask [true, false, true, true]
                    intro a fr
                    refine wl_run orc_ok 2 rfl fr fun a fr => ?_
                    refine wl_lit (xs := [a2]) orc_ok lit22 fr rfl rfl rfl rfl ⟨rfl, rfl, trivial⟩ rfl rfl S ?_
                    intro w A38 c39 S
                    intro a fr
                    obtain ⟨hc, h⟩ := ifs h
                    have S : Sat w0 _ [ownA .u32 23 A3 c4 l5, ownA .u32 23 A38 c39 [a2], ownA .u32 23 A36 c37 (l8 ++ [(IntKind.wrap .u32 ((IntKind.wrap .u32 (a2 + (IntKind.wrap .u32 y2))) - (1 : Int)))]), ownA .u32 23 A30 c31 (Option.getD o29 [])] := S.frontAt 3 rfl
                    have hy := (Sat.ownAt S 1 rfl)
                    refine wl_app lit22 fr rfl rfl rfl rfl rfl rfl rfl rfl hy hc S ?_
                    intro w A40 c41 S
                    have S : Sat w0 _ [ownA .u32 23 A40 c41 (l5 ++ [a2]), ownA .u32 23 A36 c37 (l8 ++ [(IntKind.wrap .u32 ((IntKind.wrap .u32 (a2 + (IntKind.wrap .u32 y2))) - (1 : Int)))]), ownA .u32 23 A30 c31 (Option.getD o29 [])] := S.mask [true, false, true, true]
                    intro a fr
                    obtain ⟨hc, h⟩ := ifs h
                    obtain ⟨o42, hx, h⟩ := lt_h h
                    have H := order_call (A := A36) (c := c37) (l := (l8 ++ [(IntKind.wrap .u32 ((IntKind.wrap .u32 (a2 + (IntKind.wrap .u32 y2))) - (1 : Int)))])) (A1 := A40) (c1 := c41) (l1 := (l5 ++ [a2])) (Sat.ownAt S 1 rfl) (Sat.ownAt S 0 rfl) (fr.slice (d := 119) rfl) (fr.slice (d := 123) rfl) hc S
                    rw [hx] at H
                    refine wl_call fr rfl rfl rfl rfl en18 H ?_
                    clear H
                    rintro _ w ⟨A43, c44, rfl, hv, S⟩
                    refine ⟨_, rfl, hv, fun a fr => ?_⟩
                    refine wl_run orc_ok 5 rfl fr fun a fr => ?_
                    refine wpList_nil ?_
                    refine then_n ?_
                    refine wp_seq ?_
                    refine wp_region_lit ?_
                    obtain ⟨r45, hr, h⟩ := bnd h
                    refine wl_call fr rfl rfl rfl rfl en17 (alive.walk k2  S hr) ?_
                    rintro _ w ⟨rfl, hv, S⟩
                    refine ⟨_, rfl, hv, fun a fr => ?_⟩
                    refine wl_run orc_ok 1 rfl fr fun a fr => ?_
                    refine wl_split 128 fr rfl h (fun fr h => ?_) (fun fr h => ?_)
                    · refine wl_run orc_ok 4 rfl fr fun a fr => ?_
                      refine wpList_nil ?_
                      refine then_n ?_
                      refine wp_ret ?_
                      injection h with h
                      subst h
                      refine ret1 fr rfl rfl ?_
                      exact ⟨rfl, fr.vok (d := 6) rfl, S.mask [false, false, false, false]⟩
                    · cases h
  exact (key w rfl (Sat.start w)).mono fun e w' ⟨h1, h2, h3⟩ => ⟨h1, h2, S.new h3.below⟩
end Go.Proofs.Ytjdholnlbhkmeaa.Pl
