/- Walks over the program's functions, printed by a program of this work (wip/tools/shal.py): each call does what the plain function says. -/
import Derived.Test.YtjdholnlbhkmeaaProg
import Derived.Test.YtjdholnlbhkmeaaTx
import Derived.Test.YtjdholnlbhkmeaaPool
import Derived.Test.YtjdholnlbhkmeaaSo
import Derived.Test.YtjdholnlbhkmeaaDRingsShift
namespace Go.Proofs.Ytjdholnlbhkmeaa.Pl
open Go Go.RowKit Sx Base Own

def orc : Orc := ⟨[(4, .bool), (22, .slice 23), (23, .int .u32), (35, .array 3 23)],
  [(23, 1)]⟩
theorem orc_ok : orc.Ok Try.prog := ⟨⟨Try.underlying4, Try.underlying22, Try.underlying23, Try.underlying35, trivial⟩, ⟨by kernel_rfl, trivial⟩⟩
theorem en14 : Enters Try.prog 14 := fun _ _ => by kernel_rfl
theorem en17 : Enters Try.prog 17 := fun _ _ => by kernel_rfl
theorem en18 : Enters Try.prog 18 := fun _ _ => by kernel_rfl
theorem en20 : Enters Try.prog 20 := fun _ _ => by kernel_rfl
theorem en23 : Enters Try.prog 23 := fun _ _ => by kernel_rfl
theorem lit22 : RowTy Try.prog 22 23 .u32 := ⟨Try.underlying22, 4, by decide, by kernel_rfl⟩
set_option maxRecDepth 100000 in
set_option maxHeartbeats 4000000 in
theorem SameIds.walk (k : Nat) (A0 : Option Addr) (c0 : Nat) (l0 : List Int) (A1 : Option Addr) (c1 : Nat) (l1 : List Int) {w0 w : World} {R : List Asn} (rk0 : Rk .u32 w A0 l0) (m0 : l0.length ≤ c0 ∧ c0 ≤ maxLen) (rk1 : Rk .u32 w A1 l1) (m1 : l1.length ≤ c1 ∧ c1 ≤ maxLen) (S : Sat w0 w R) {r : Bool} (h : SameIds.f k l0 l1 = some r) :
    Calls Try.prog 20 #[(.slice A0 (List.length l0) c0), (.slice A1 (List.length l1) c1)] w fun e w' => e = .returned (.bool r) ∧ vok (.bool r) = true ∧ Sat w0 w' R := by
  have key : ∀ w0 : World, w0 = w → Sat w0 w [] → Calls Try.prog 20 #[(.slice A0 (List.length l0) c0), (.slice A1 (List.length l1) c1)] w fun e w' => e = .returned (.bool r) ∧ vok (.bool r) = true ∧ Sat w0 w' [] := by
    clear S
    intro w0 hw S
    rw [← hw] at rk0
    rw [← hw] at rk1
    clear hw
    unfold SameIds.f at h
    refine calls_start (N := 26) [(.slice A0 (List.length l0) c0), (.slice A1 (List.length l1) c1)] Try.func20 rfl rfl rfl (vok_c (vok_sl m0) (vok_c (vok_sl m1) rfl)) fun a fr => ?_
    refine wp_seq ?_
    refine wp_region_lit ?_
    refine wl_run orc_ok 1 rfl fr fun a fr => ?_
    refine wpList_nil ?_
    refine then_n ?_
    refine wp_seq ?_
    refine wp_seq ?_
    refine wp_region_lit ?_
    refine wl_run orc_ok 5 rfl fr fun a fr => ?_
    refine wpList_nil ?_
    refine then_n ?_
    refine cw_if fr rfl h (fun h => ?_) (fun h => ?_)
    · refine wp_seq ?_
      refine wp_region_lit ?_
      refine wl_run orc_ok 1 rfl fr fun a fr => ?_
      refine wpList_nil ?_
      refine then_n ?_
      refine wp_ret ?_
      refine then_r ?_
      injection h with h
      subst h
      refine ret1 fr rfl rfl ?_
      exact ⟨rfl, fr.vok (d := 4) rfl, S.mask []⟩
    · refine wp_skip ?_
      refine then_n ?_
      refine wp_seq ?_
      refine wp_seq ?_
      refine wp_region_lit ?_
      refine wl_run orc_ok 1 rfl fr fun a fr => ?_
      refine wpList_nil ?_
      refine then_n ?_
      refine wp_block ?_
      refine cw_loop (fun k1 a w => ∃ x1 : Int, Fr 26 a [(0, (.slice A0 (List.length l0) c0)), (1, (.slice A1 (List.length l1) c1)), (5, (.int .i64 x1))] ∧ Sat w0 w [] ∧ (SameIds.l1 k1 l0 l1 x1) = some r) k ⟨(0 : Int), fr.sub ⟨rfl, rfl, rfl, trivial⟩, S, h⟩ ?_ ?_
      · rintro a w ⟨x1, -, -, h⟩
        simp only [SameIds.l1] at h
        cases h
      · rintro k1 a w ⟨x1, fr, S, h⟩
        rw [SameIds.l1] at h
        refine wp_seq ?_
        refine wp_seq ?_
        refine wp_region_lit ?_
        refine wl_run orc_ok 4 rfl fr fun a fr => ?_
        refine wpList_nil ?_
        refine then_n ?_
        refine cw_if fr rfl h (fun h => ?_) (fun h => ?_)
        · refine wp_skip ?_
          refine then_n ?_
          refine wp_seq ?_
          refine wp_block ?_
          refine wp_seq ?_
          refine wp_region_sl [.one (0, true, some 17), .one (1, true, some 18), .one (2, true, some 19), .one (3, true, some 20), .one (4, true, some 21), .one (5, true, some 22), .one (6, true, some 23), .one (7, true, some 24), .one (8, true, some 25)]
            [.one ⟨true, some 17, (Go.Op.move (Go.Operand.tmp 0)), 22, none⟩,
    .one ⟨true, some 18, (Go.Op.move (Go.Operand.tmp 5)), 3, none⟩,
    .one ⟨true, some 19, (Go.Op.indexAddr 22 (Go.Operand.tmp 17) (Go.Operand.tmp 18)), 0, none⟩,
    .one ⟨true, some 20, (Go.Op.load 23 (Go.Operand.tmp 19)), 23, none⟩,
    .one ⟨true, some 21, (Go.Op.move (Go.Operand.tmp 1)), 22, none⟩,
    .one ⟨true, some 22, (Go.Op.move (Go.Operand.tmp 5)), 3, none⟩,
    .one ⟨true, some 23, (Go.Op.indexAddr 22 (Go.Operand.tmp 21) (Go.Operand.tmp 22)), 0, none⟩,
    .one ⟨true, some 24, (Go.Op.load 23 (Go.Operand.tmp 23)), 23, none⟩,
    .one ⟨true, some 25, (Go.Op.binOp Go.BinOp.neq 23 (Go.Operand.tmp 20) (Go.Operand.tmp 24) 23), 4, none⟩]
            (fun w => Sat w0 w []) rfl (by kernel_rfl) (by kernel_rfl) (S.drew.mask []) ?_
          have S := S.drew
          refine sl_run orc_ok 2 rfl fr fun a fr => ?_
          obtain ⟨hc, h⟩ := ifs h
          refine sl_ld orc_ok (fun _ S => Rk.at rk0 S) fr rfl rfl rfl rfl rfl rfl rfl rfl rfl rfl rfl rfl rfl rfl rfl rfl rfl rfl hc (Sat.mask S []) fun a fr => ?_
          refine sl_run orc_ok 2 rfl fr fun a fr => ?_
          obtain ⟨hc, h⟩ := ifs h
          refine sl_ld orc_ok (fun _ S => Rk.at rk1 S) fr rfl rfl rfl rfl rfl rfl rfl rfl rfl rfl rfl rfl rfl rfl rfl rfl rfl rfl hc (Sat.mask S []) fun a fr => ?_
          refine sl_run orc_ok 1 rfl fr fun a fr => ?_
          refine sl_end ?_
          refine then_n ?_
          refine cw_if fr rfl h (fun h => ?_) (fun h => ?_)
          · refine wp_seq ?_
            refine wp_region_lit ?_
            refine wl_run orc_ok 1 rfl fr fun a fr => ?_
            refine wpList_nil ?_
            refine then_n ?_
            refine wp_ret ?_
            refine blk_r ?_
            refine then_r ?_
            refine then_r ?_
            refine blk_r ?_
            refine then_r ?_
            injection h with h
            subst h
            refine ret1 fr rfl rfl ?_
            exact ⟨rfl, fr.vok (d := 4) rfl, S.mask []⟩
          · refine wp_skip ?_
            refine blk_n ?_
            refine then_n ?_
            refine wp_region_lit ?_
            refine wl_run orc_ok 3 rfl fr fun a fr => ?_
            refine wpList_nil ?_
            exact ⟨(IntKind.wrap .i64 (x1 + (1 : Int))), fr.sub ⟨rfl, rfl, rfl, trivial⟩, S, h⟩
        · refine wp_exit ?_
          refine then_e ?_
          refine then_e ?_
          refine blk_y ?_
          refine then_n ?_
          refine wp_seq ?_
          refine wp_region_lit ?_
          refine wl_run orc_ok 1 rfl fr fun a fr => ?_
          refine wpList_nil ?_
          refine then_n ?_
          refine wp_ret ?_
          injection h with h
          subst h
          refine ret1 fr rfl rfl ?_
          exact ⟨rfl, fr.vok (d := 4) rfl, S.mask []⟩
  exact (key w rfl (Sat.start w)).mono fun e w' ⟨h1, h2, h3⟩ => ⟨h1, h2, S.new h3.below⟩
set_option maxRecDepth 100000 in
set_option maxHeartbeats 4000000 in
theorem alive.walk (k : Nat)  {w0 w : World} {R : List Asn}  (S : Sat w0 w R) {r : Bool} (h : alive.f k = some r) :
    Calls Try.prog 17 #[] w fun e w' => e = .returned (.bool r) ∧ vok (.bool r) = true ∧ Sat w0 w' R := by
  have key : ∀ w0 : World, w0 = w → Sat w0 w [] → Calls Try.prog 17 #[] w fun e w' => e = .returned (.bool r) ∧ vok (.bool r) = true ∧ Sat w0 w' [] := by
    clear S
    intro w0 hw S
    clear hw
    unfold alive.f at h
    refine calls_start (N := 108) [] Try.func17 rfl rfl rfl rfl fun a fr => ?_
    refine wp_seq ?_
    refine wp_region_lit ?_
    refine wl_run orc_ok 1 rfl fr fun a fr => ?_
    refine wpList_nil ?_
    refine then_n ?_
    refine wp_seq ?_
    refine wp_region_lit ?_
    refine wl_lit (xs := [(1 : Int), (2 : Int)]) orc_ok lit22 fr rfl rfl rfl rfl ⟨rfl, rfl, rfl, rfl, trivial⟩ rfl rfl S ?_
    intro w A1 c2 S
    intro a fr
    have hv := (fr.vok (d := 18) rfl)
    refine wl_call fr rfl rfl rfl rfl en23 (ids_call hv) ?_
    rintro _ w ⟨rfl, hw⟩
    subst hw
    refine ⟨_, rfl, hv, fun a fr => ?_⟩
    refine wl_lit (xs := [(2 : Int), (3 : Int)]) orc_ok lit22 fr rfl rfl rfl rfl ⟨rfl, rfl, rfl, rfl, trivial⟩ rfl rfl S ?_
    intro w A3 c4 S
    intro a fr
    have hv := (fr.vok (d := 20) rfl)
    refine wl_call fr rfl rfl rfl rfl en23 (ids_call hv) ?_
    rintro _ w ⟨rfl, hw⟩
    subst hw
    refine ⟨_, rfl, hv, fun a fr => ?_⟩
    obtain ⟨hc, h⟩ := ifs h
    obtain ⟨y5, hx, h⟩ := lt_h h
    obtain ⟨y6, hx2, h⟩ := lt_h h
    have H := closes_call (A := A1) (c := c2) (l := [(1 : Int), (2 : Int)]) (A1 := A3) (c1 := c4) (l1 := [(2 : Int), (3 : Int)]) (who := (3 : Int)) (whom := (1 : Int)) (Sat.ownAt S 1 rfl) (Sat.ownAt S 0 rfl) (fr.slice (d := 19) rfl) (fr.slice (d := 21) rfl) rfl rfl hc S
    have hv := vok_cl (if List.length [(1 : Int), (2 : Int)] = List.length [(2 : Int), (3 : Int)] then comesB (List.zip [(1 : Int), (2 : Int)] [(2 : Int), (3 : Int)]) (1 : Int) (3 : Int) else false) (List.length [(1 : Int), (2 : Int)] = List.length [(2 : Int), (3 : Int)])
    rw [hx, hx2] at hv H
    refine wl_call fr rfl rfl rfl rfl en14 H ?_
    clear H
    rintro _ w ⟨rfl, S⟩
    refine ⟨_, rfl, hv, fun a fr => ?_⟩
    refine wl_run orc_ok 5 rfl fr fun a fr => ?_
    refine wpList_nil ?_
    refine then_n ?_
    refine wp_seq ?_
    refine wp_region_lit ?_
    refine wl_lit (xs := [(1 : Int), (2 : Int)]) orc_ok lit22 fr rfl rfl rfl rfl ⟨rfl, rfl, rfl, rfl, trivial⟩ rfl rfl S ?_
    intro w A7 c8 S
    intro a fr
    have hv := (fr.vok (d := 26) rfl)
    refine wl_call fr rfl rfl rfl rfl en23 (ids_call hv) ?_
    rintro _ w ⟨rfl, hw⟩
    subst hw
    refine ⟨_, rfl, hv, fun a fr => ?_⟩
    refine wl_lit (xs := [(2 : Int), (3 : Int)]) orc_ok lit22 fr rfl rfl rfl rfl ⟨rfl, rfl, rfl, rfl, trivial⟩ rfl rfl S ?_
    intro w A9 c10 S
    intro a fr
    have hv := (fr.vok (d := 28) rfl)
    refine wl_call fr rfl rfl rfl rfl en23 (ids_call hv) ?_
    rintro _ w ⟨rfl, hw⟩
    subst hw
    refine ⟨_, rfl, hv, fun a fr => ?_⟩
    obtain ⟨hc, h⟩ := ifs h
    obtain ⟨y11, hx, h⟩ := lt_h h
    obtain ⟨y12, hx2, h⟩ := lt_h h
    have H := closes_call (A := A7) (c := c8) (l := [(1 : Int), (2 : Int)]) (A1 := A9) (c1 := c10) (l1 := [(2 : Int), (3 : Int)]) (who := (1 : Int)) (whom := (3 : Int)) (Sat.ownAt S 1 rfl) (Sat.ownAt S 0 rfl) (fr.slice (d := 27) rfl) (fr.slice (d := 29) rfl) rfl rfl hc S
    have hv := vok_cl (if List.length [(1 : Int), (2 : Int)] = List.length [(2 : Int), (3 : Int)] then comesB (List.zip [(1 : Int), (2 : Int)] [(2 : Int), (3 : Int)]) (3 : Int) (1 : Int) else false) (List.length [(1 : Int), (2 : Int)] = List.length [(2 : Int), (3 : Int)])
    rw [hx, hx2] at hv H
    refine wl_call fr rfl rfl rfl rfl en14 H ?_
    clear H
    rintro _ w ⟨rfl, S⟩
    refine ⟨_, rfl, hv, fun a fr => ?_⟩
    refine wl_run orc_ok 5 rfl fr fun a fr => ?_
    refine wpList_nil ?_
    refine then_n ?_
    refine wp_seq ?_
    refine wp_region_lit ?_
    obtain ⟨hc, h⟩ := ifs h
    obtain ⟨y13, hx, h⟩ := lt_h h
    obtain ⟨y14, hx2, h⟩ := lt_h h
    have H := closes_call (A := none) (c := 0) (l := ([] : List Int)) (A1 := none) (c1 := 0) (l1 := ([] : List Int)) (who := (5 : Int)) (whom := (5 : Int)) Rk.nil Rk.nil ⟨Nat.le_refl _, Nat.zero_le _⟩ ⟨Nat.le_refl _, Nat.zero_le _⟩ rfl rfl hc S
    have hv := vok_cl (if List.length ([] : List Int) = List.length ([] : List Int) then comesB (List.zip ([] : List Int) ([] : List Int)) (5 : Int) (5 : Int) else false) (List.length ([] : List Int) = List.length ([] : List Int))
    rw [hx, hx2] at hv H
    refine wl_call fr rfl rfl rfl rfl en14 H ?_
    clear H
    rintro _ w ⟨rfl, S⟩
    refine ⟨_, rfl, hv, fun a fr => ?_⟩
    refine wl_run orc_ok 5 rfl fr fun a fr => ?_
    refine wpList_nil ?_
    refine then_n ?_
    refine wp_seq ?_
    refine wp_region_lit ?_
    refine wl_lit (xs := [(1 : Int)]) orc_ok lit22 fr rfl rfl rfl rfl ⟨rfl, rfl, trivial⟩ rfl rfl S ?_
    intro w A15 c16 S
    intro a fr
    have hv := (fr.vok (d := 38) rfl)
    refine wl_call fr rfl rfl rfl rfl en23 (ids_call hv) ?_
    rintro _ w ⟨rfl, hw⟩
    subst hw
    refine ⟨_, rfl, hv, fun a fr => ?_⟩
    obtain ⟨hc, h⟩ := ifs h
    obtain ⟨y17, hx, h⟩ := lt_h h
    obtain ⟨y18, hx2, h⟩ := lt_h h
    have H := closes_call (A := A15) (c := c16) (l := [(1 : Int)]) (A1 := none) (c1 := 0) (l1 := ([] : List Int)) (who := (1 : Int)) (whom := (2 : Int)) (Sat.ownAt S 0 rfl) Rk.nil (fr.slice (d := 39) rfl) ⟨Nat.le_refl _, Nat.zero_le _⟩ rfl rfl hc S
    have hv := vok_cl (if List.length [(1 : Int)] = List.length ([] : List Int) then comesB (List.zip [(1 : Int)] ([] : List Int)) (2 : Int) (1 : Int) else false) (List.length [(1 : Int)] = List.length ([] : List Int))
    rw [hx, hx2] at hv H
    refine wl_call fr rfl rfl rfl rfl en14 H ?_
    clear H
    rintro _ w ⟨rfl, S⟩
    refine ⟨_, rfl, hv, fun a fr => ?_⟩
    refine wl_run orc_ok 5 rfl fr fun a fr => ?_
    refine wpList_nil ?_
    refine then_n ?_
    refine wp_seq ?_
    refine wp_region_lit ?_
    refine wl_lit (xs := [(1 : Int), (2 : Int), (5 : Int)]) orc_ok lit22 fr rfl rfl rfl rfl ⟨rfl, rfl, rfl, rfl, rfl, rfl, trivial⟩ rfl rfl S ?_
    intro w A19 c20 S
    intro a fr
    have hv := (fr.vok (d := 44) rfl)
    refine wl_call fr rfl rfl rfl rfl en23 (ids_call hv) ?_
    rintro _ w ⟨rfl, hw⟩
    subst hw
    refine ⟨_, rfl, hv, fun a fr => ?_⟩
    refine wl_lit (xs := [(2 : Int), (3 : Int), (3 : Int)]) orc_ok lit22 fr rfl rfl rfl rfl ⟨rfl, rfl, rfl, rfl, rfl, rfl, trivial⟩ rfl rfl S ?_
    intro w A21 c22 S
    intro a fr
    have hv := (fr.vok (d := 46) rfl)
    refine wl_call fr rfl rfl rfl rfl en23 (ids_call hv) ?_
    rintro _ w ⟨rfl, hw⟩
    subst hw
    refine ⟨_, rfl, hv, fun a fr => ?_⟩
    obtain ⟨hc, h⟩ := ifs h
    obtain ⟨o23, hx, h⟩ := lt_h h
    have H := order_call (A := A19) (c := c20) (l := [(1 : Int), (2 : Int), (5 : Int)]) (A1 := A21) (c1 := c22) (l1 := [(2 : Int), (3 : Int), (3 : Int)]) (Sat.ownAt S 1 rfl) (Sat.ownAt S 0 rfl) (fr.slice (d := 45) rfl) (fr.slice (d := 47) rfl) hc S
    rw [hx] at H
    refine wl_call fr rfl rfl rfl rfl en18 H ?_
    clear H
    rintro _ w ⟨A24, c25, rfl, hv, S⟩
    refine ⟨_, rfl, hv, fun a fr => ?_⟩
    refine wl_run orc_ok 5 rfl fr fun a fr => ?_
    refine wpList_nil ?_
    refine then_n ?_
    refine wp_seq ?_
    refine wp_region_lit ?_
    refine wl_lit (xs := [(1 : Int), (2 : Int)]) orc_ok lit22 fr rfl rfl rfl rfl ⟨rfl, rfl, rfl, rfl, trivial⟩ rfl rfl S ?_
    intro w A26 c27 S
    intro a fr
    have hv := (fr.vok (d := 52) rfl)
    refine wl_call fr rfl rfl rfl rfl en23 (ids_call hv) ?_
    rintro _ w ⟨rfl, hw⟩
    subst hw
    refine ⟨_, rfl, hv, fun a fr => ?_⟩
    refine wl_lit (xs := [(2 : Int), (1 : Int)]) orc_ok lit22 fr rfl rfl rfl rfl ⟨rfl, rfl, rfl, rfl, trivial⟩ rfl rfl S ?_
    intro w A28 c29 S
    intro a fr
    have hv := (fr.vok (d := 54) rfl)
    refine wl_call fr rfl rfl rfl rfl en23 (ids_call hv) ?_
    rintro _ w ⟨rfl, hw⟩
    subst hw
    refine ⟨_, rfl, hv, fun a fr => ?_⟩
    obtain ⟨hc, h⟩ := ifs h
    obtain ⟨o30, hx, h⟩ := lt_h h
    have H := order_call (A := A26) (c := c27) (l := [(1 : Int), (2 : Int)]) (A1 := A28) (c1 := c29) (l1 := [(2 : Int), (1 : Int)]) (Sat.ownAt S 1 rfl) (Sat.ownAt S 0 rfl) (fr.slice (d := 53) rfl) (fr.slice (d := 55) rfl) hc S
    rw [hx] at H
    refine wl_call fr rfl rfl rfl rfl en18 H ?_
    clear H
    rintro _ w ⟨A31, c32, rfl, hv, S⟩
    refine ⟨_, rfl, hv, fun a fr => ?_⟩
    refine wl_run orc_ok 5 rfl fr fun a fr => ?_
    refine wpList_nil ?_
    refine then_n ?_
    refine wp_seq ?_
    refine wp_region_lit ?_
    refine wl_lit (xs := [(1 : Int)]) orc_ok lit22 fr rfl rfl rfl rfl ⟨rfl, rfl, trivial⟩ rfl rfl S ?_
    intro w A33 c34 S
    intro a fr
    have hv := (fr.vok (d := 60) rfl)
    refine wl_call fr rfl rfl rfl rfl en23 (ids_call hv) ?_
    rintro _ w ⟨rfl, hw⟩
    subst hw
    refine ⟨_, rfl, hv, fun a fr => ?_⟩
    refine wl_lit (xs := [(1 : Int)]) orc_ok lit22 fr rfl rfl rfl rfl ⟨rfl, rfl, trivial⟩ rfl rfl S ?_
    intro w A35 c36 S
    intro a fr
    have hv := (fr.vok (d := 62) rfl)
    refine wl_call fr rfl rfl rfl rfl en23 (ids_call hv) ?_
    rintro _ w ⟨rfl, hw⟩
    subst hw
    refine ⟨_, rfl, hv, fun a fr => ?_⟩
    obtain ⟨hc, h⟩ := ifs h
    obtain ⟨o37, hx, h⟩ := lt_h h
    have H := order_call (A := A33) (c := c34) (l := [(1 : Int)]) (A1 := A35) (c1 := c36) (l1 := [(1 : Int)]) (Sat.ownAt S 1 rfl) (Sat.ownAt S 0 rfl) (fr.slice (d := 61) rfl) (fr.slice (d := 63) rfl) hc S
    rw [hx] at H
    refine wl_call fr rfl rfl rfl rfl en18 H ?_
    clear H
    rintro _ w ⟨A38, c39, rfl, hv, S⟩
    refine ⟨_, rfl, hv, fun a fr => ?_⟩
    refine wl_run orc_ok 5 rfl fr fun a fr => ?_
    refine wpList_nil ?_
    refine then_n ?_
    refine wp_seq ?_
    refine wp_region_lit ?_
    obtain ⟨hc, h⟩ := ifs h
    obtain ⟨o40, hx, h⟩ := lt_h h
    have H := order_call (A := none) (c := 0) (l := ([] : List Int)) (A1 := none) (c1 := 0) (l1 := ([] : List Int)) Rk.nil Rk.nil ⟨Nat.le_refl _, Nat.zero_le _⟩ ⟨Nat.le_refl _, Nat.zero_le _⟩ hc S
    rw [hx] at H
    refine wl_call fr rfl rfl rfl rfl en18 H ?_
    clear H
    rintro _ w ⟨A41, c42, rfl, hv, S⟩
    refine ⟨_, rfl, hv, fun a fr => ?_⟩
    refine wl_run orc_ok 5 rfl fr fun a fr => ?_
    refine wpList_nil ?_
    refine then_n ?_
    refine wp_seq ?_
    refine wp_region_lit ?_
    refine wl_run orc_ok 2 rfl fr fun a fr => ?_
    refine wl_split 72 fr rfl h (fun fr h => ?_) (fun fr h => ?_)
    · refine wl_run orc_ok 4 rfl fr fun a fr => ?_
      refine wl_split 76 fr rfl h (fun fr h => ?_) (fun fr h => ?_)
      · refine wl_run orc_ok 3 rfl fr fun a fr => ?_
        refine wl_split 79 fr rfl h (fun fr h => ?_) (fun fr h => ?_)
        · refine wl_run orc_ok 4 rfl fr fun a fr => ?_
          refine wl_split 83 fr rfl h (fun fr h => ?_) (fun fr h => ?_)
          · refine wl_run orc_ok 3 rfl fr fun a fr => ?_
            refine wl_split 86 fr rfl h (fun fr h => ?_) (fun fr h => ?_)
            · refine wl_run orc_ok 1 rfl fr fun a fr => ?_
              refine wl_lit (xs := [(3 : Int), (2 : Int), (1 : Int), (5 : Int)]) orc_ok lit22 fr rfl rfl rfl rfl ⟨rfl, rfl, rfl, rfl, rfl, rfl, rfl, rfl, trivial⟩ rfl rfl S ?_
              intro w A43 c44 S
              intro a fr
              have hv := (fr.vok (d := 88) rfl)
              refine wl_call fr rfl rfl rfl rfl en23 (ids_call hv) ?_
              rintro _ w ⟨rfl, hw⟩
              subst hw
              refine ⟨_, rfl, hv, fun a fr => ?_⟩
              obtain ⟨r45, hr, h⟩ := bnd h
              refine wl_call fr rfl rfl rfl rfl en20 (SameIds.walk k A24 c25 (Option.getD o23 []) A43 c44 [(3 : Int), (2 : Int), (1 : Int), (5 : Int)] (Sat.ownAt S 8 rfl) (fr.slice (d := 87) rfl) (Sat.ownAt S 0 rfl) (fr.slice (d := 89) rfl) S hr) ?_
              rintro _ w ⟨rfl, hv, S⟩
              refine ⟨_, rfl, hv, fun a fr => ?_⟩
              refine wl_run orc_ok 2 rfl fr fun a fr => ?_
              refine wl_split 92 fr rfl h (fun fr h => ?_) (fun fr h => ?_)
              · refine wl_run orc_ok 4 rfl fr fun a fr => ?_
                refine wl_split 96 fr rfl h (fun fr h => ?_) (fun fr h => ?_)
                · refine wl_run orc_ok 4 rfl fr fun a fr => ?_
                  refine wl_split 100 fr rfl h (fun fr h => ?_) (fun fr h => ?_)
                  · refine wl_run orc_ok 3 rfl fr fun a fr => ?_
                    refine wl_split 103 fr rfl h (fun fr h => ?_) (fun fr h => ?_)
                    · refine wl_run orc_ok 5 rfl fr fun a fr => ?_
                      obtain ⟨y46, hx, h⟩ := lt_h h
                      have fr := fr.spell (d := 0) rfl (congrArg Value.bool hx)
                      refine wpList_nil ?_
                      refine then_n ?_
                      refine wp_ret ?_
                      injection h with h
                      subst h
                      refine ret1 fr rfl rfl ?_
                      exact ⟨rfl, fr.vok (d := 0) rfl, S.mask [false, false, false, false, false, false, false, false, false, false, false, false, false, false, false, false]⟩
                    · refine wl_run orc_ok 5 rfl fr fun a fr => ?_
                      refine wpList_nil ?_
                      refine then_n ?_
                      refine wp_ret ?_
                      injection h with h
                      subst h
                      refine ret1 fr rfl rfl ?_
                      exact ⟨rfl, fr.vok (d := 0) rfl, S.mask [false, false, false, false, false, false, false, false, false, false, false, false, false, false, false, false]⟩
                  · refine wl_run orc_ok 8 rfl fr fun a fr => ?_
                    refine wpList_nil ?_
                    refine then_n ?_
                    refine wp_ret ?_
                    injection h with h
                    subst h
                    refine ret1 fr rfl rfl ?_
                    exact ⟨rfl, fr.vok (d := 0) rfl, S.mask [false, false, false, false, false, false, false, false, false, false, false, false, false, false, false, false]⟩
                · refine wl_run orc_ok 12 rfl fr fun a fr => ?_
                  refine wpList_nil ?_
                  refine then_n ?_
                  refine wp_ret ?_
                  injection h with h
                  subst h
                  refine ret1 fr rfl rfl ?_
                  exact ⟨rfl, fr.vok (d := 0) rfl, S.mask [false, false, false, false, false, false, false, false, false, false, false, false, false, false, false, false]⟩
              · refine wl_run orc_ok 16 rfl fr fun a fr => ?_
                refine wpList_nil ?_
                refine then_n ?_
                refine wp_ret ?_
                injection h with h
                subst h
                refine ret1 fr rfl rfl ?_
                exact ⟨rfl, fr.vok (d := 0) rfl, S.mask [false, false, false, false, false, false, false, false, false, false, false, false, false, false, false, false]⟩
            · refine wl_run orc_ok 22 rfl fr fun a fr => ?_
              refine wpList_nil ?_
              refine then_n ?_
              refine wp_ret ?_
              injection h with h
              subst h
              refine ret1 fr rfl rfl ?_
              exact ⟨rfl, fr.vok (d := 0) rfl, S.mask [false, false, false, false, false, false, false, false, false, false, false, false, false, false, false]⟩
          · refine wl_run orc_ok 25 rfl fr fun a fr => ?_
            refine wpList_nil ?_
            refine then_n ?_
            refine wp_ret ?_
            injection h with h
            subst h
            refine ret1 fr rfl rfl ?_
            exact ⟨rfl, fr.vok (d := 0) rfl, S.mask [false, false, false, false, false, false, false, false, false, false, false, false, false, false, false]⟩
        · refine wl_run orc_ok 29 rfl fr fun a fr => ?_
          refine wpList_nil ?_
          refine then_n ?_
          refine wp_ret ?_
          injection h with h
          subst h
          refine ret1 fr rfl rfl ?_
          exact ⟨rfl, fr.vok (d := 0) rfl, S.mask [false, false, false, false, false, false, false, false, false, false, false, false, false, false, false]⟩
      · refine wl_run orc_ok 32 rfl fr fun a fr => ?_
        refine wpList_nil ?_
        refine then_n ?_
        refine wp_ret ?_
        injection h with h
        subst h
        refine ret1 fr rfl rfl ?_
        exact ⟨rfl, fr.vok (d := 0) rfl, S.mask [false, false, false, false, false, false, false, false, false, false, false, false, false, false, false]⟩
    · refine wl_run orc_ok 36 rfl fr fun a fr => ?_
      refine wpList_nil ?_
      refine then_n ?_
      refine wp_ret ?_
      injection h with h
      subst h
      refine ret1 fr rfl rfl ?_
      exact ⟨rfl, fr.vok (d := 0) rfl, S.mask [false, false, false, false, false, false, false, false, false, false, false, false, false, false, false]⟩
  exact (key w rfl (Sat.start w)).mono fun e w' ⟨h1, h2, h3⟩ => ⟨h1, h2, S.new h3.below⟩
set_option maxRecDepth 100000 in
set_option maxHeartbeats 4000000 in
theorem RingsShift.walk (k : Nat) (A0 : Option Addr) (c0 : Nat) (l0 : List Int) (A1 : Option Addr) (c1 : Nat) (l1 : List Int) (l2 : List Int) {w0 w : World} {R : List Asn} (rk0 : Rk .u32 w A0 l0) (m0 : l0.length ≤ c0 ∧ c0 ≤ maxLen) (rk1 : Rk .u32 w A1 l1) (m1 : l1.length ≤ c1 ∧ c1 ≤ maxLen) (n2 : l2.length = 3) (v2 : ∀ z ∈ l2, (Lit.int .u32 z).wf = true) (S : Sat w0 w R) {r : Bool} (h : RingsShift.f k l0 l1 l2 = some r) :
    Calls Try.prog 10 #[(.slice A0 (List.length l0) c0), (.slice A1 (List.length l1) c1), (.agg (List.map (Value.int .u32) l2).toArray)] w fun e w' => e = .returned (.bool r) ∧ vok (.bool r) = true ∧ Sat w0 w' R := by
  have key : ∀ w0 : World, w0 = w → Sat w0 w [] → Calls Try.prog 10 #[(.slice A0 (List.length l0) c0), (.slice A1 (List.length l1) c1), (.agg (List.map (Value.int .u32) l2).toArray)] w fun e w' => e = .returned (.bool r) ∧ vok (.bool r) = true ∧ Sat w0 w' [] := by
    clear S
    intro w0 hw S
    rw [← hw] at rk0
    rw [← hw] at rk1
    clear hw
    unfold RingsShift.f at h
    refine calls_start (N := 158) [(.slice A0 (List.length l0) c0), (.slice A1 (List.length l1) c1), (.agg (List.map (Value.int .u32) l2).toArray)] Try.func10 rfl rfl rfl (vok_c (vok_sl m0) (vok_c (vok_sl m1) (vok_c (vok_ag v2) rfl))) fun a fr => ?_
    refine wp_seq ?_
    refine wp_region_lit ?_
    refine wl_box fr rfl rfl rfl rfl rfl n2 (fun _ => rfl) S ?_
    intro w g1 S a fr
    refine wl_run orc_ok 1 rfl fr fun a fr => ?_
    refine wpList_nil ?_
    refine then_n ?_
    refine wp_seq ?_
    refine wp_seq ?_
    refine wp_region_lit ?_
    obtain ⟨r2, hr, h⟩ := bnd h
    refine wl_call fr rfl rfl rfl rfl en17 (alive.walk k  S hr) ?_
    rintro _ w ⟨rfl, hv, S⟩
    refine ⟨_, rfl, hv, fun a fr => ?_⟩
    refine wl_run orc_ok 2 rfl fr fun a fr => ?_
    refine wl_split 21 fr rfl h (fun fr h => ?_) (fun fr h => ?_)
    · refine wl_run orc_ok 11 rfl fr fun a fr => ?_
      refine wpList_nil ?_
      refine then_n ?_
      refine cw_t fr rfl ?_
      refine wp_seq ?_
      refine wp_region_lit ?_
      obtain ⟨r3, hr, h⟩ := bnd h
      refine wl_call fr rfl rfl rfl rfl en17 (alive.walk k  S hr) ?_
      rintro _ w ⟨rfl, hv, S⟩
      refine ⟨_, rfl, hv, fun a fr => ?_⟩
      refine wl_run orc_ok 1 rfl fr fun a fr => ?_
      refine wpList_nil ?_
      refine then_n ?_
      refine wp_ret ?_
      refine then_r ?_
      injection h with h
      subst h
      refine ret1 fr rfl rfl ?_
      exact ⟨rfl, fr.vok (d := 6) rfl, S.mask [false]⟩
    · refine wl_run orc_ok 5 rfl fr fun a fr => ?_
      refine wl_split 26 fr rfl h (fun fr h => ?_) (fun fr h => ?_)
      · refine wl_run orc_ok 6 rfl fr fun a fr => ?_
        refine wpList_nil ?_
        refine then_n ?_
        refine cw_t fr rfl ?_
        refine wp_seq ?_
        refine wp_region_lit ?_
        obtain ⟨r4, hr, h⟩ := bnd h
        refine wl_call fr rfl rfl rfl rfl en17 (alive.walk k  S hr) ?_
        rintro _ w ⟨rfl, hv, S⟩
        refine ⟨_, rfl, hv, fun a fr => ?_⟩
        refine wl_run orc_ok 1 rfl fr fun a fr => ?_
        refine wpList_nil ?_
        refine then_n ?_
        refine wp_ret ?_
        refine then_r ?_
        injection h with h
        subst h
        refine ret1 fr rfl rfl ?_
        exact ⟨rfl, fr.vok (d := 6) rfl, S.mask [false]⟩
      · refine wl_run orc_ok 6 rfl fr fun a fr => ?_
        refine wpList_nil ?_
        refine then_n ?_
        refine cw_if fr rfl h (fun h => ?_) (fun h => ?_)
        · refine wp_seq ?_
          refine wp_region_lit ?_
          obtain ⟨r5, hr, h⟩ := bnd h
          refine wl_call fr rfl rfl rfl rfl en17 (alive.walk k  S hr) ?_
          rintro _ w ⟨rfl, hv, S⟩
          refine ⟨_, rfl, hv, fun a fr => ?_⟩
          refine wl_run orc_ok 1 rfl fr fun a fr => ?_
          refine wpList_nil ?_
          refine then_n ?_
          refine wp_ret ?_
          refine then_r ?_
          injection h with h
          subst h
          refine ret1 fr rfl rfl ?_
          exact ⟨rfl, fr.vok (d := 6) rfl, S.mask [false]⟩
        · refine wp_skip ?_
          refine then_n ?_
          refine wp_seq ?_
          refine wp_region_lit ?_
          refine wl_run orc_ok 2 rfl fr fun a fr => ?_
          refine wpList_nil ?_
          refine then_n ?_
          refine wp_seq ?_
          refine wp_seq ?_
          refine wp_region_lit ?_
          refine wl_run orc_ok 1 rfl fr fun a fr => ?_
          refine wpList_nil ?_
          refine then_n ?_
          refine wp_block ?_
          have S : Sat w0 _ [ownA .u32 23 none 0 ([] : List Int), arrA (Value.int .u32) 35 3 g1 l2] := S.nilRow .u32 23
          have S : Sat w0 _ [ownA .u32 23 none 0 ([] : List Int), ownA .u32 23 none 0 ([] : List Int), arrA (Value.int .u32) 35 3 g1 l2] := S.nilRow .u32 23
          refine cw_loop (fun k1 a w => ∃ A6 : Option Addr, ∃ c7 : Nat, ∃ l8 : List Int, ∃ A9 : Option Addr, ∃ c10 : Nat, ∃ l11 : List Int, ∃ x12 : Int, Fr 158 a [(0, (.slice A0 (List.length l0) c0)), (1, (.slice A1 (List.length l1) c1)), (5, (.pointer (some ⟨g1, 0, none⟩))), (7, (.slice A9 (List.length l11) c10)), (8, (.slice A6 (List.length l8) c7)), (9, (.int .i64 x12))] ∧ Sat w0 w [ownA .u32 23 A6 c7 l8, ownA .u32 23 A9 c10 l11, arrA (Value.int .u32) 35 3 g1 l2] ∧ (RingsShift.l1 k1 l0 l1 l2 l8 l11 x12) = some r) k ⟨none, 0, ([] : List Int), none, 0, ([] : List Int), (0 : Int), fr.sub ⟨rfl, rfl, rfl, rfl, rfl, rfl, trivial⟩, S, h⟩ ?_ ?_
          · rintro a w ⟨A6, c7, l8, A9, c10, l11, x12, -, -, h⟩
            simp only [RingsShift.l1] at h
            cases h
          · rintro k1 a w ⟨A6, c7, l8, A9, c10, l11, x12, fr, S, h⟩
            rw [RingsShift.l1] at h
            refine wp_seq ?_
            refine wp_seq ?_
            refine wp_region_lit ?_
            refine wl_run orc_ok 4 rfl fr fun a fr => ?_
            refine wpList_nil ?_
            refine then_n ?_
            refine cw_if fr rfl h (fun h => ?_) (fun h => ?_)
            · refine wp_skip ?_
              refine then_n ?_
              refine wp_seq ?_
              refine wp_block ?_
              refine wp_seq ?_
              refine wp_seq ?_
              refine wp_region_lit ?_
              refine wl_run orc_ok 2 rfl fr fun a fr => ?_
              obtain ⟨hc, h⟩ := ifs h
              refine wl_ld orc_ok (Rk.at rk0 S) fr rfl rfl rfl rfl rfl rfl rfl rfl rfl rfl rfl rfl rfl rfl rfl rfl hc fun a fr => ?_
              refine wl_run orc_ok 2 rfl fr fun a fr => ?_
              refine wl_split 45 fr rfl h (fun fr h => ?_) (fun fr h => ?_)
              · refine wl_run orc_ok 6 rfl fr fun a fr => ?_
                refine wpList_nil ?_
                refine then_n ?_
                refine cw_t fr rfl ?_
                refine wp_seq ?_
                refine wp_region_lit ?_
                refine wl_run orc_ok 1 rfl fr fun a fr => ?_
                refine wpList_nil ?_
                refine then_n ?_
                refine wp_ret ?_
                refine then_r ?_
                refine blk_r ?_
                refine then_r ?_
                refine then_r ?_
                refine blk_r ?_
                refine then_r ?_
                injection h with h
                subst h
                refine ret1 fr rfl rfl ?_
                exact ⟨rfl, fr.vok (d := 6) rfl, S.mask [false, false, false]⟩
              · refine wl_run orc_ok 2 rfl fr fun a fr => ?_
                obtain ⟨hc, h⟩ := ifs h
                refine wl_ld orc_ok (Rk.at rk1 S) fr rfl rfl rfl rfl rfl rfl rfl rfl rfl rfl rfl rfl rfl rfl rfl rfl hc fun a fr => ?_
                refine wl_run orc_ok 2 rfl fr fun a fr => ?_
                refine wpList_nil ?_
                refine then_n ?_
                refine cw_if fr rfl h (fun h => ?_) (fun h => ?_)
                · refine wp_seq ?_
                  refine wp_region_lit ?_
                  refine wl_run orc_ok 1 rfl fr fun a fr => ?_
                  refine wpList_nil ?_
                  refine then_n ?_
                  refine wp_ret ?_
                  refine then_r ?_
                  refine blk_r ?_
                  refine then_r ?_
                  refine then_r ?_
                  refine blk_r ?_
                  refine then_r ?_
                  injection h with h
                  subst h
                  refine ret1 fr rfl rfl ?_
                  exact ⟨rfl, fr.vok (d := 6) rfl, S.mask [false, false, false]⟩
                · refine wp_skip ?_
                  refine then_n ?_
                  refine wp_seq ?_
                  refine wp_region_sl [.one (0, true, some 52), .one (1, true, some 53), .one (2, true, some 54), .one (3, true, some 55), .one (4, true, some 56), .one (5, true, some 57), .one (6, true, some 58), .one (7, true, some 59), .one (8, true, some 60), .one (9, false, some 61), .one (10, false, some 62), .one (11, true, some 7)]
                    [.one ⟨true, some 52, (Go.Op.move (Go.Operand.tmp 7)), 22, none⟩,
    .one ⟨true, some 53, (Go.Op.move (Go.Operand.tmp 0)), 22, none⟩,
    .one ⟨true, some 54, (Go.Op.move (Go.Operand.tmp 9)), 3, none⟩,
    .one ⟨true, some 55, (Go.Op.indexAddr 22 (Go.Operand.tmp 53) (Go.Operand.tmp 54)), 0, none⟩,
    .one ⟨true, some 56, (Go.Op.load 23 (Go.Operand.tmp 55)), 23, none⟩,
    .one ⟨true, some 57, (Go.Op.indexAddr 35 (Go.Operand.tmp 5) (Go.Operand.const (Go.Value.int Go.IntKind.i64 0))), 0, none⟩,
    .one ⟨true, some 58, (Go.Op.load 23 (Go.Operand.tmp 57)), 23, none⟩,
    .one ⟨true, some 59, (Go.Op.binOp Go.BinOp.shr 23 (Go.Operand.tmp 58) (Go.Operand.const (Go.Value.int Go.IntKind.u64 1)) 40), 23, none⟩,
    .one ⟨true, some 60, (Go.Op.binOp Go.BinOp.add 23 (Go.Operand.tmp 56) (Go.Operand.tmp 59) 23), 23, none⟩,
    .one ⟨false, some 61, (Go.Op.buildSlice 22 1 #[(0, (Go.Operand.tmp 60))]), 22, none⟩,
    .one ⟨false, some 62, (Go.Op.call { callee := (Go.Callee.builtin Go.Builtin.append), args := #[(Go.Operand.tmp 52), (Go.Operand.tmp 61)], argTypes := #[22, 22] }), 22, none⟩,
    .one ⟨true, some 7, (Go.Op.assign (Go.Operand.tmp 62)), 22, none⟩]
                    (fun w => Sat w0 w [ownA .u32 23 A6 c7 l8, arrA (Value.int .u32) 35 3 g1 l2]) rfl (by kernel_rfl) (by kernel_rfl) (S.drew.mask [true, false, true]) ?_
                  have S := S.drew
                  refine sl_run orc_ok 3 rfl fr fun a fr => ?_
                  obtain ⟨hc, h⟩ := ifs h
                  refine sl_ld orc_ok (fun _ S => Rk.at rk0 S) fr rfl rfl rfl rfl rfl rfl rfl rfl rfl rfl rfl rfl rfl rfl rfl rfl rfl rfl hc (Sat.mask S [true, false, true]) fun a fr => ?_
                  obtain ⟨hc, h⟩ := ifs h
                  refine sl_lda orc_ok 0 (fun _ S => Sat.arrAt S 1 rfl) fr rfl rfl rfl rfl rfl rfl rfl rfl rfl rfl rfl rfl rfl rfl rfl rfl rfl rfl hc (Sat.mask S [true, false, true]) fun a fr => ?_
                  refine sl_run orc_ok 2 rfl fr fun a fr => ?_
                  refine sl_lit (xs := [(IntKind.wrap .u32 ((List.getD l0 (Int.toNat x12) 0) + (Int.fdiv (List.getD l2 (Int.toNat (0 : Int)) 0) (2 ^ 1))))]) orc_ok lit22 fr rfl rfl rfl rfl rfl ⟨rfl, rfl, trivial⟩ rfl rfl S ?_
                  intro w A20 c21 S
                  refine ⟨(Sat.mask S [false, true, false, true]), fun a fr => ?_⟩
                  obtain ⟨hc, h⟩ := ifs h
                  have S : Sat w0 _ [ownA .u32 23 A9 c10 l11, ownA .u32 23 A20 c21 [(IntKind.wrap .u32 ((List.getD l0 (Int.toNat x12) 0) + (Int.fdiv (List.getD l2 (Int.toNat (0 : Int)) 0) (2 ^ 1))))], ownA .u32 23 A6 c7 l8, arrA (Value.int .u32) 35 3 g1 l2] := S.frontAt 2 rfl
                  have hy := (Sat.ownAt S 1 rfl)
                  refine sl_app lit22 fr rfl rfl rfl rfl rfl rfl rfl rfl rfl hy hc S ?_
                  intro w A22 c23 S
                  have S : Sat w0 _ [ownA .u32 23 A22 c23 (l11 ++ [(IntKind.wrap .u32 ((List.getD l0 (Int.toNat x12) 0) + (Int.fdiv (List.getD l2 (Int.toNat (0 : Int)) 0) (2 ^ 1))))]), ownA .u32 23 A6 c7 l8, arrA (Value.int .u32) 35 3 g1 l2] := S.mask [true, false, true, true]
                  refine ⟨(Sat.mask S [false, true, true]), fun a fr => ?_⟩
                  refine sl_run orc_ok 1 rfl fr fun a fr => ?_
                  refine sl_end ?_
                  refine then_n ?_
                  refine wp_region_sl [.one (0, true, some 63), .one (1, true, some 64), .one (2, true, some 65), .one (3, true, some 66), .one (4, true, some 67), .one (5, true, some 68), .one (6, true, some 69), .one (7, true, some 70), .one (8, true, some 71), .one (9, false, some 72), .one (10, false, some 73), .one (11, true, some 8)]
                    [.one ⟨true, some 63, (Go.Op.move (Go.Operand.tmp 8)), 22, none⟩,
    .one ⟨true, some 64, (Go.Op.move (Go.Operand.tmp 1)), 22, none⟩,
    .one ⟨true, some 65, (Go.Op.move (Go.Operand.tmp 9)), 3, none⟩,
    .one ⟨true, some 66, (Go.Op.indexAddr 22 (Go.Operand.tmp 64) (Go.Operand.tmp 65)), 0, none⟩,
    .one ⟨true, some 67, (Go.Op.load 23 (Go.Operand.tmp 66)), 23, none⟩,
    .one ⟨true, some 68, (Go.Op.indexAddr 35 (Go.Operand.tmp 5) (Go.Operand.const (Go.Value.int Go.IntKind.i64 0))), 0, none⟩,
    .one ⟨true, some 69, (Go.Op.load 23 (Go.Operand.tmp 68)), 23, none⟩,
    .one ⟨true, some 70, (Go.Op.binOp Go.BinOp.shr 23 (Go.Operand.tmp 69) (Go.Operand.const (Go.Value.int Go.IntKind.u64 1)) 40), 23, none⟩,
    .one ⟨true, some 71, (Go.Op.binOp Go.BinOp.add 23 (Go.Operand.tmp 67) (Go.Operand.tmp 70) 23), 23, none⟩,
    .one ⟨false, some 72, (Go.Op.buildSlice 22 1 #[(0, (Go.Operand.tmp 71))]), 22, none⟩,
    .one ⟨false, some 73, (Go.Op.call { callee := (Go.Callee.builtin Go.Builtin.append), args := #[(Go.Operand.tmp 63), (Go.Operand.tmp 72)], argTypes := #[22, 22] }), 22, none⟩,
    .one ⟨true, some 8, (Go.Op.assign (Go.Operand.tmp 73)), 22, none⟩]
                    (fun w => Sat w0 w [ownA .u32 23 A22 c23 (l11 ++ [(IntKind.wrap .u32 ((List.getD l0 (Int.toNat x12) 0) + (Int.fdiv (List.getD l2 (Int.toNat (0 : Int)) 0) (2 ^ 1))))]), arrA (Value.int .u32) 35 3 g1 l2]) rfl (by kernel_rfl) (by kernel_rfl) (S.drew.mask [true, false, true]) ?_
                  have S := S.drew
                  refine sl_run orc_ok 3 rfl fr fun a fr => ?_
                  obtain ⟨hc, h⟩ := ifs h
                  refine sl_ld orc_ok (fun _ S => Rk.at rk1 S) fr rfl rfl rfl rfl rfl rfl rfl rfl rfl rfl rfl rfl rfl rfl rfl rfl rfl rfl hc (Sat.mask S [true, false, true]) fun a fr => ?_
                  obtain ⟨hc, h⟩ := ifs h
                  refine sl_lda orc_ok 0 (fun _ S => Sat.arrAt S 1 rfl) fr rfl rfl rfl rfl rfl rfl rfl rfl rfl rfl rfl rfl rfl rfl rfl rfl rfl rfl hc (Sat.mask S [true, false, true]) fun a fr => ?_
                  refine sl_run orc_ok 2 rfl fr fun a fr => ?_
                  refine sl_lit (xs := [(IntKind.wrap .u32 ((List.getD l1 (Int.toNat x12) 0) + (Int.fdiv (List.getD l2 (Int.toNat (0 : Int)) 0) (2 ^ 1))))]) orc_ok lit22 fr rfl rfl rfl rfl rfl ⟨rfl, rfl, trivial⟩ rfl rfl S ?_
                  intro w A24 c25 S
                  refine ⟨(Sat.mask S [false, true, false, true]), fun a fr => ?_⟩
                  obtain ⟨hc, h⟩ := ifs h
                  have S : Sat w0 _ [ownA .u32 23 A6 c7 l8, ownA .u32 23 A24 c25 [(IntKind.wrap .u32 ((List.getD l1 (Int.toNat x12) 0) + (Int.fdiv (List.getD l2 (Int.toNat (0 : Int)) 0) (2 ^ 1))))], ownA .u32 23 A22 c23 (l11 ++ [(IntKind.wrap .u32 ((List.getD l0 (Int.toNat x12) 0) + (Int.fdiv (List.getD l2 (Int.toNat (0 : Int)) 0) (2 ^ 1))))]), arrA (Value.int .u32) 35 3 g1 l2] := S.frontAt 2 rfl
                  have hy := (Sat.ownAt S 1 rfl)
                  refine sl_app lit22 fr rfl rfl rfl rfl rfl rfl rfl rfl rfl hy hc S ?_
                  intro w A26 c27 S
                  have S : Sat w0 _ [ownA .u32 23 A26 c27 (l8 ++ [(IntKind.wrap .u32 ((List.getD l1 (Int.toNat x12) 0) + (Int.fdiv (List.getD l2 (Int.toNat (0 : Int)) 0) (2 ^ 1))))]), ownA .u32 23 A22 c23 (l11 ++ [(IntKind.wrap .u32 ((List.getD l0 (Int.toNat x12) 0) + (Int.fdiv (List.getD l2 (Int.toNat (0 : Int)) 0) (2 ^ 1))))]), arrA (Value.int .u32) 35 3 g1 l2] := S.mask [true, false, true, true]
                  refine ⟨(Sat.mask S [false, true, true]), fun a fr => ?_⟩
                  refine sl_run orc_ok 1 rfl fr fun a fr => ?_
                  refine sl_end ?_
                  refine blk_n ?_
                  refine then_n ?_
                  refine wp_region_lit ?_
                  refine wl_run orc_ok 3 rfl fr fun a fr => ?_
                  refine wpList_nil ?_
                  exact ⟨A26, c27, (l8 ++ [(IntKind.wrap .u32 ((List.getD l1 (Int.toNat x12) 0) + (Int.fdiv (List.getD l2 (Int.toNat (0 : Int)) 0) (2 ^ 1))))]), A22, c23, (l11 ++ [(IntKind.wrap .u32 ((List.getD l0 (Int.toNat x12) 0) + (Int.fdiv (List.getD l2 (Int.toNat (0 : Int)) 0) (2 ^ 1))))]), (IntKind.wrap .i64 (x12 + (1 : Int))), fr.sub ⟨rfl, rfl, rfl, rfl, rfl, rfl, trivial⟩, S, h⟩
            · refine wp_exit ?_
              refine then_e ?_
              refine then_e ?_
              refine blk_y ?_
              refine then_n ?_
              refine wp_seq ?_
              refine wp_region_lit ?_
              refine wl_run orc_ok 2 rfl fr fun a fr => ?_
              obtain ⟨hc, h⟩ := ifs h
              obtain ⟨o28, hx, h⟩ := lt_h h
              have H := order_call (A := A0) (c := c0) (l := l0) (A1 := A1) (c1 := c1) (l1 := l1) (Rk.at rk0 S) (Rk.at rk1 S) (fr.slice (d := 75) rfl) (fr.slice (d := 76) rfl) hc S
              rw [hx] at H
              refine wl_call fr rfl rfl rfl rfl en18 H ?_
              clear H
              rintro _ w ⟨A29, c30, rfl, hv, S⟩
              refine ⟨_, rfl, hv, fun a fr => ?_⟩
              refine wl_run orc_ok 5 rfl fr fun a fr => ?_
              refine wpList_nil ?_
              refine then_n ?_
              refine wp_seq ?_
              refine wp_region_lit ?_
              refine wl_run orc_ok 2 rfl fr fun a fr => ?_
              obtain ⟨hc, h⟩ := ifs h
              obtain ⟨o31, hx, h⟩ := lt_h h
              have H := order_call (A := A9) (c := c10) (l := l11) (A1 := A6) (c1 := c7) (l1 := l8) (Sat.ownAt S 2 rfl) (Sat.ownAt S 1 rfl) (fr.slice (d := 81) rfl) (fr.slice (d := 82) rfl) hc S
              rw [hx] at H
              refine wl_call fr rfl rfl rfl rfl en18 H ?_
              clear H
              rintro _ w ⟨A32, c33, rfl, hv, S⟩
              refine ⟨_, rfl, hv, fun a fr => ?_⟩
              refine wl_run orc_ok 5 rfl fr fun a fr => ?_
              refine wpList_nil ?_
              refine then_n ?_
              refine wp_seq ?_
              refine wp_seq ?_
              refine wp_region_lit ?_
              refine wl_run orc_ok 4 rfl fr fun a fr => ?_
              refine wl_split 89 fr rfl h (fun fr h => ?_) (fun fr h => ?_)
              · cases h
              · refine wl_run orc_ok 6 rfl fr fun a fr => ?_
                refine wpList_nil ?_
                refine then_n ?_
                refine cw_if fr rfl h (fun h => ?_) (fun h => ?_)
                · cases h
                · refine wp_skip ?_
                  refine then_n ?_
                  refine wp_seq ?_
                  refine wp_seq ?_
                  refine wp_region_lit ?_
                  refine wl_run orc_ok 1 rfl fr fun a fr => ?_
                  refine wpList_nil ?_
                  refine then_n ?_
                  refine wp_block ?_
                  refine cw_loop (fun k2 a w => ∃ x34 : Int, Fr 158 a [(0, (.slice A0 (List.length l0) c0)), (1, (.slice A1 (List.length l1) c1)), (5, (.pointer (some ⟨g1, 0, none⟩))), (7, (.slice A9 (List.length l11) c10)), (8, (.slice A6 (List.length l8) c7)), (10, (.slice A29 (List.length (Option.getD o28 [])) c30)), (12, (.slice A32 (List.length (Option.getD o31 [])) c33)), (14, (.int .i64 x34))] ∧ Sat w0 w [ownA .u32 23 A32 c33 (Option.getD o31 []), ownA .u32 23 A29 c30 (Option.getD o28 []), ownA .u32 23 A6 c7 l8, ownA .u32 23 A9 c10 l11, arrA (Value.int .u32) 35 3 g1 l2] ∧ (RingsShift.l2 k2 o28 o31 l2 l0 l1 l11 l8 x34) = some r) k1 ⟨(0 : Int), fr.sub ⟨rfl, rfl, rfl, rfl, rfl, rfl, rfl, rfl, trivial⟩, S, h⟩ ?_ ?_
                  · rintro a w ⟨x34, -, -, h⟩
                    simp only [RingsShift.l2] at h
                    cases h
                  · rintro k2 a w ⟨x34, fr, S, h⟩
                    rw [RingsShift.l2] at h
                    refine wp_seq ?_
                    refine wp_seq ?_
                    refine wp_region_lit ?_
                    refine wl_run orc_ok 4 rfl fr fun a fr => ?_
                    refine wpList_nil ?_
                    refine then_n ?_
                    refine cw_if fr rfl h (fun h => ?_) (fun h => ?_)
                    · refine wp_skip ?_
                      refine then_n ?_
                      refine wp_seq ?_
                      refine wp_block ?_
                      refine wp_seq ?_
                      refine wp_region_sl [.one (0, true, some 102), .one (1, true, some 103), .one (2, true, some 104), .one (3, true, some 105), .one (4, true, some 106), .one (5, true, some 107), .one (6, true, some 108), .one (7, true, some 109), .one (8, true, some 110), .one (9, true, some 111), .one (10, true, some 112), .one (11, true, some 113), .one (12, true, some 114)]
                        [.one ⟨true, some 102, (Go.Op.move (Go.Operand.tmp 12)), 22, none⟩,
    .one ⟨true, some 103, (Go.Op.move (Go.Operand.tmp 14)), 3, none⟩,
    .one ⟨true, some 104, (Go.Op.indexAddr 22 (Go.Operand.tmp 102) (Go.Operand.tmp 103)), 0, none⟩,
    .one ⟨true, some 105, (Go.Op.load 23 (Go.Operand.tmp 104)), 23, none⟩,
    .one ⟨true, some 106, (Go.Op.move (Go.Operand.tmp 10)), 22, none⟩,
    .one ⟨true, some 107, (Go.Op.move (Go.Operand.tmp 14)), 3, none⟩,
    .one ⟨true, some 108, (Go.Op.indexAddr 22 (Go.Operand.tmp 106) (Go.Operand.tmp 107)), 0, none⟩,
    .one ⟨true, some 109, (Go.Op.load 23 (Go.Operand.tmp 108)), 23, none⟩,
    .one ⟨true, some 110, (Go.Op.indexAddr 35 (Go.Operand.tmp 5) (Go.Operand.const (Go.Value.int Go.IntKind.i64 0))), 0, none⟩,
    .one ⟨true, some 111, (Go.Op.load 23 (Go.Operand.tmp 110)), 23, none⟩,
    .one ⟨true, some 112, (Go.Op.binOp Go.BinOp.shr 23 (Go.Operand.tmp 111) (Go.Operand.const (Go.Value.int Go.IntKind.u64 1)) 40), 23, none⟩,
    .one ⟨true, some 113, (Go.Op.binOp Go.BinOp.add 23 (Go.Operand.tmp 109) (Go.Operand.tmp 112) 23), 23, none⟩,
    .one ⟨true, some 114, (Go.Op.binOp Go.BinOp.neq 23 (Go.Operand.tmp 105) (Go.Operand.tmp 113) 23), 4, none⟩]
                        (fun w => Sat w0 w [ownA .u32 23 A32 c33 (Option.getD o31 []), ownA .u32 23 A29 c30 (Option.getD o28 []), ownA .u32 23 A6 c7 l8, ownA .u32 23 A9 c10 l11, arrA (Value.int .u32) 35 3 g1 l2]) rfl (by kernel_rfl) (by kernel_rfl) (S.drew.mask [true, true, true, true, true]) ?_
                      have S := S.drew
                      refine sl_run orc_ok 2 rfl fr fun a fr => ?_
                      obtain ⟨hc, h⟩ := ifs h
                      refine sl_ld orc_ok (fun _ S => Sat.ownAt S 0 rfl) fr rfl rfl rfl rfl rfl rfl rfl rfl rfl rfl rfl rfl rfl rfl rfl rfl rfl rfl hc (Sat.mask S [true, true, true, true, true]) fun a fr => ?_
                      refine sl_run orc_ok 2 rfl fr fun a fr => ?_
                      obtain ⟨hc, h⟩ := ifs h
                      refine sl_ld orc_ok (fun _ S => Sat.ownAt S 1 rfl) fr rfl rfl rfl rfl rfl rfl rfl rfl rfl rfl rfl rfl rfl rfl rfl rfl rfl rfl hc (Sat.mask S [true, true, true, true, true]) fun a fr => ?_
                      obtain ⟨hc, h⟩ := ifs h
                      refine sl_lda orc_ok 0 (fun _ S => Sat.arrAt S 4 rfl) fr rfl rfl rfl rfl rfl rfl rfl rfl rfl rfl rfl rfl rfl rfl rfl rfl rfl rfl hc (Sat.mask S [true, true, true, true, true]) fun a fr => ?_
                      refine sl_run orc_ok 3 rfl fr fun a fr => ?_
                      refine sl_end ?_
                      refine then_n ?_
                      refine cw_if fr rfl h (fun h => ?_) (fun h => ?_)
                      · cases h
                      · refine wp_skip ?_
                        refine blk_n ?_
                        refine then_n ?_
                        refine wp_region_lit ?_
                        refine wl_run orc_ok 3 rfl fr fun a fr => ?_
                        refine wpList_nil ?_
                        exact ⟨(IntKind.wrap .i64 (x34 + (1 : Int))), fr.sub ⟨rfl, rfl, rfl, rfl, rfl, rfl, rfl, rfl, trivial⟩, S, h⟩
                    · refine wp_exit ?_
                      refine then_e ?_
                      refine then_e ?_
                      refine blk_y ?_
                      refine then_n ?_
                      refine wp_seq ?_
                      refine wp_region_lit ?_
                      refine wl_run orc_ok 2 rfl fr fun a fr => ?_
                      obtain ⟨hc, h⟩ := ifs h
                      refine wl_lda orc_ok 0 (Sat.arrAt S 4 rfl) fr rfl rfl rfl rfl rfl rfl rfl rfl rfl rfl rfl rfl rfl rfl rfl rfl hc fun a fr => ?_
                      refine wl_run orc_ok 1 rfl fr fun a fr => ?_
                      obtain ⟨hc, h⟩ := ifs h
                      refine wl_lda orc_ok 0 (Sat.arrAt S 4 rfl) fr rfl rfl rfl rfl rfl rfl rfl rfl rfl rfl rfl rfl rfl rfl rfl rfl hc fun a fr => ?_
                      refine wl_run orc_ok 1 rfl fr fun a fr => ?_
                      obtain ⟨hc, h⟩ := ifs h
                      obtain ⟨y36, hx, h⟩ := lt_h h
                      obtain ⟨y37, hx2, h⟩ := lt_h h
                      have H := closes_call (A := A0) (c := c0) (l := l0) (A1 := A1) (c1 := c1) (l1 := l1) (who := (Int.fdiv (List.getD l2 (Int.toNat (1 : Int)) 0) (2 ^ 1))) (whom := (Int.fdiv (List.getD l2 (Int.toNat (2 : Int)) 0) (2 ^ 1))) (Rk.at rk0 S) (Rk.at rk1 S) (fr.slice (d := 116) rfl) (fr.slice (d := 117) rfl) (fr.int (d := 120) rfl) (fr.int (d := 123) rfl) hc S
                      have hv := vok_cl (if List.length l0 = List.length l1 then comesB (List.zip l0 l1) (Int.fdiv (List.getD l2 (Int.toNat (2 : Int)) 0) (2 ^ 1)) (Int.fdiv (List.getD l2 (Int.toNat (1 : Int)) 0) (2 ^ 1)) else false) (List.length l0 = List.length l1)
                      rw [hx, hx2] at hv H
                      refine wl_call fr rfl rfl rfl rfl en14 H ?_
                      clear H
                      rintro _ w ⟨rfl, S⟩
                      refine ⟨_, rfl, hv, fun a fr => ?_⟩
                      refine wl_run orc_ok 5 rfl fr fun a fr => ?_
                      refine wpList_nil ?_
                      refine then_n ?_
                      refine wp_seq ?_
                      refine wp_region_lit ?_
                      refine wl_run orc_ok 2 rfl fr fun a fr => ?_
                      obtain ⟨hc, h⟩ := ifs h
                      refine wl_lda orc_ok 0 (Sat.arrAt S 4 rfl) fr rfl rfl rfl rfl rfl rfl rfl rfl rfl rfl rfl rfl rfl rfl rfl rfl hc fun a fr => ?_
                      refine wl_run orc_ok 1 rfl fr fun a fr => ?_
                      obtain ⟨hc, h⟩ := ifs h
                      refine wl_lda orc_ok 0 (Sat.arrAt S 4 rfl) fr rfl rfl rfl rfl rfl rfl rfl rfl rfl rfl rfl rfl rfl rfl rfl rfl hc fun a fr => ?_
                      refine wl_run orc_ok 2 rfl fr fun a fr => ?_
                      obtain ⟨hc, h⟩ := ifs h
                      refine wl_lda orc_ok 0 (Sat.arrAt S 4 rfl) fr rfl rfl rfl rfl rfl rfl rfl rfl rfl rfl rfl rfl rfl rfl rfl rfl hc fun a fr => ?_
                      refine wl_run orc_ok 1 rfl fr fun a fr => ?_
                      obtain ⟨hc, h⟩ := ifs h
                      refine wl_lda orc_ok 0 (Sat.arrAt S 4 rfl) fr rfl rfl rfl rfl rfl rfl rfl rfl rfl rfl rfl rfl rfl rfl rfl rfl hc fun a fr => ?_
                      refine wl_run orc_ok 2 rfl fr fun a fr => ?_
                      obtain ⟨hc, h⟩ := ifs h
                      obtain ⟨y38, hx, h⟩ := lt_h h
                      obtain ⟨y39, hx2, h⟩ := lt_h h
                      have H := closes_call (A := A9) (c := c10) (l := l11) (A1 := A6) (c1 := c7) (l1 := l8) (who := (IntKind.wrap .u32 ((Int.fdiv (List.getD l2 (Int.toNat (1 : Int)) 0) (2 ^ 1)) + (Int.fdiv (List.getD l2 (Int.toNat (0 : Int)) 0) (2 ^ 1))))) (whom := (IntKind.wrap .u32 ((Int.fdiv (List.getD l2 (Int.toNat (2 : Int)) 0) (2 ^ 1)) + (Int.fdiv (List.getD l2 (Int.toNat (0 : Int)) 0) (2 ^ 1))))) (Sat.ownAt S 3 rfl) (Sat.ownAt S 2 rfl) (fr.slice (d := 128) rfl) (fr.slice (d := 129) rfl) (fr.int (d := 136) rfl) (fr.int (d := 143) rfl) hc S
                      have hv := vok_cl (if List.length l11 = List.length l8 then comesB (List.zip l11 l8) (IntKind.wrap .u32 ((Int.fdiv (List.getD l2 (Int.toNat (2 : Int)) 0) (2 ^ 1)) + (Int.fdiv (List.getD l2 (Int.toNat (0 : Int)) 0) (2 ^ 1)))) (IntKind.wrap .u32 ((Int.fdiv (List.getD l2 (Int.toNat (1 : Int)) 0) (2 ^ 1)) + (Int.fdiv (List.getD l2 (Int.toNat (0 : Int)) 0) (2 ^ 1)))) else false) (List.length l11 = List.length l8)
                      rw [hx, hx2] at hv H
                      refine wl_call fr rfl rfl rfl rfl en14 H ?_
                      clear H
                      rintro _ w ⟨rfl, S⟩
                      refine ⟨_, rfl, hv, fun a fr => ?_⟩
                      refine wl_run orc_ok 5 rfl fr fun a fr => ?_
                      refine wpList_nil ?_
                      refine then_n ?_
                      refine wp_seq ?_
                      refine wp_region_lit ?_
                      refine wl_run orc_ok 3 rfl fr fun a fr => ?_
                      refine wl_split 149 fr rfl h (fun fr h => ?_) (fun fr h => ?_)
                      · refine wl_run orc_ok 4 rfl fr fun a fr => ?_
                        refine wl_split 153 fr rfl h (fun fr h => ?_) (fun fr h => ?_)
                        · refine wl_run orc_ok 5 rfl fr fun a fr => ?_
                          refine wpList_nil ?_
                          refine then_n ?_
                          refine wp_ret ?_
                          injection h with h
                          subst h
                          refine ret1 fr rfl rfl ?_
                          exact ⟨rfl, fr.vok (d := 6) rfl, S.mask [false, false, false, false, false]⟩
                        · cases h
                      · cases h
  exact (key w rfl (Sat.start w)).mono fun e w' ⟨h1, h2, h3⟩ => ⟨h1, h2, S.new h3.below⟩
end Go.Proofs.Ytjdholnlbhkmeaa.Pl
