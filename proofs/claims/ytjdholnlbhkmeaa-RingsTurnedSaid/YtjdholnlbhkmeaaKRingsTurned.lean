/- Walks over the program's functions, printed by a program of this work (wip/tools/shal.py): each call does what the plain function says. -/
import Derived.Test.YtjdholnlbhkmeaaProg
import Derived.Test.YtjdholnlbhkmeaaTx
import Derived.Test.YtjdholnlbhkmeaaPool
import Derived.Test.YtjdholnlbhkmeaaSo
import Derived.Test.YtjdholnlbhkmeaaDRingsTurned
namespace Go.Proofs.Ytjdholnlbhkmeaa.Pl
open Go Go.RowKit Sx Base Own

def orc : Orc := ⟨[(3, .int .i64), (4, .bool), (5, .int .u8), (22, .slice 23), (23, .int .u32)],
  [(23, 1)]⟩
theorem orc_ok : orc.Ok Try.prog := ⟨⟨Try.underlying3, Try.underlying4, Try.underlying5, Try.underlying22, Try.underlying23, trivial⟩, ⟨by kernel_rfl, trivial⟩⟩
theorem en14 : Enters Try.prog 14 := fun _ _ => by kernel_rfl
theorem en17 : Enters Try.prog 17 := fun _ _ => by kernel_rfl
theorem en18 : Enters Try.prog 18 := fun _ _ => by kernel_rfl
theorem en20 : Enters Try.prog 20 := fun _ _ => by kernel_rfl
theorem en23 : Enters Try.prog 23 := fun _ _ => by kernel_rfl
theorem info23 : (Try.prog.info? 23).map (·.size) = some 1 := by kernel_rfl
theorem lit22 : RowTy Try.prog 22 23 .u32 := ⟨Try.underlying22, 4, by decide, by kernel_rfl⟩
set_option maxRecDepth 100000 in
set_option maxHeartbeats 4000000 in
theorem SameIds.walk (k : Nat) (A0 : Option Addr) (c0 : Nat) (l0 : List Int) (A1 : Option Addr) (c1 : Nat) (l1 : List Int) {w0 w : World} {R : List Asn} (rk0 : Rk .u32 w A0 l0) (m0 : l0.length ≤ c0 ∧ c0 ≤ maxLen) (rk1 : Rk .u32 w A1 l1) (m1 : l1.length ≤ c1 ∧ c1 ≤ maxLen) (S : Sat w0 w R) {r : Bool} (h : SameIds.f k l0 l1 = some r) :
    Calls Try.prog 20 #[(.slice A0 (List.length l0) c0), (.slice A1 (List.length l1) c1)] w fun e w' => e = .returned (.bool r) ∧ vok (.bool r) = true ∧ Sat w0 w' R := by
  have key : ∀ w0 : World, w0 = w → Sat w0 w [] → Calls Try.prog 20 #[(.slice A0 (List.length l0) c0), (.slice A1 (List.length l1) c1)] w fun e w' => e = .returned (.bool r) ∧ vok (.bool r) = true ∧ Sat w0 w' [] := by
    clear S
    intro w0 hw S
    rw [← hw] at rk0
    rw [← hw] at rk1
    clear hw
    unfold SameIds.f at h
    refine calls_start (N := 26) [(.slice A0 (List.length l0) c0), (.slice A1 (List.length l1) c1)] Try.func20 rfl rfl rfl (vok_c (vok_sl m0) (vok_c (vok_sl m1) rfl)) fun a fr => ?_
    refine wp_seq ?_
    refine wp_region_lit ?_
    refine wl_run orc_ok 1 rfl fr fun a fr => ?_
    refine wpList_nil ?_
    refine then_n ?_
    refine wp_seq ?_
    refine wp_seq ?_
    refine wp_region_lit ?_
    refine wl_run orc_ok 5 rfl fr fun a fr => ?_
    refine wpList_nil ?_
    refine then_n ?_
    refine cw_if fr rfl h (fun h => ?_) (fun h => ?_)
    · refine wp_seq ?_
      refine wp_region_lit ?_
      refine wl_run orc_ok 1 rfl fr fun a fr => ?_
      refine wpList_nil ?_
      refine then_n ?_
      refine wp_ret ?_
      refine then_r ?_
      injection h with h
      subst h
      refine ret1 fr rfl rfl ?_
      exact ⟨rfl, fr.vok (d := 4) rfl, S.mask []⟩
    · refine wp_skip ?_
      refine then_n ?_
      refine wp_seq ?_
      refine wp_seq ?_
      refine wp_region_lit ?_
      refine wl_run orc_ok 1 rfl fr fun a fr => ?_
      refine wpList_nil ?_
      refine then_n ?_
      refine wp_block ?_
      refine cw_loop (fun k1 a w => ∃ x1 : Int, Fr 26 a [(0, (.slice A0 (List.length l0) c0)), (1, (.slice A1 (List.length l1) c1)), (5, (.int .i64 x1))] ∧ Sat w0 w [] ∧ (SameIds.l1 k1 l0 l1 x1) = some r) k ⟨(0 : Int), fr.sub ⟨rfl, rfl, rfl, trivial⟩, S, h⟩ ?_ ?_
      · rintro a w ⟨x1, -, -, h⟩
        simp only [SameIds.l1] at h
        cases h
      · rintro k1 a w ⟨x1, fr, S, h⟩
        rw [SameIds.l1] at h
        refine wp_seq ?_
        refine wp_seq ?_
        refine wp_region_lit ?_
        refine wl_run orc_ok 4 rfl fr fun a fr => ?_
        refine wpList_nil ?_
        refine then_n ?_
        refine cw_if fr rfl h (fun h => ?_) (fun h => ?_)
        · refine wp_skip ?_
          refine then_n ?_
          refine wp_seq ?_
          refine wp_block ?_
          refine wp_seq ?_
          refine wp_region_sl [.one (0, true, some 17), .one (1, true, some 18), .one (2, true, some 19), .one (3, true, some 20), .one (4, true, some 21), .one (5, true, some 22), .one (6, true, some 23), .one (7, true, some 24), .one (8, true, some 25)]
            [.one ⟨true, some 17, (Go.Op.move (Go.Operand.tmp 0)), 22, none⟩,
    .one ⟨true, some 18, (Go.Op.move (Go.Operand.tmp 5)), 3, none⟩,
    .one ⟨true, some 19, (Go.Op.indexAddr 22 (Go.Operand.tmp 17) (Go.Operand.tmp 18)), 0, none⟩,
    .one ⟨true, some 20, (Go.Op.load 23 (Go.Operand.tmp 19)), 23, none⟩,
    .one ⟨true, some 21, (Go.Op.move (Go.Operand.tmp 1)), 22, none⟩,
    .one ⟨true, some 22, (Go.Op.move (Go.Operand.tmp 5)), 3, none⟩,
    .one ⟨true, some 23, (Go.Op.indexAddr 22 (Go.Operand.tmp 21) (Go.Operand.tmp 22)), 0, none⟩,
    .one ⟨true, some 24, (Go.Op.load 23 (Go.Operand.tmp 23)), 23, none⟩,
    .one ⟨true, some 25, (Go.Op.binOp Go.BinOp.neq 23 (Go.Operand.tmp 20) (Go.Operand.tmp 24) 23), 4, none⟩]
            (fun w => Sat w0 w []) rfl (by kernel_rfl) (by kernel_rfl) (S.drew.mask []) ?_
          have S := S.drew
          refine sl_run orc_ok 2 rfl fr fun a fr => ?_
          obtain ⟨hc, h⟩ := ifs h
          refine sl_ld orc_ok (fun _ S => Rk.at rk0 S) fr rfl rfl rfl rfl rfl rfl rfl rfl rfl rfl rfl rfl rfl rfl rfl rfl rfl rfl hc (Sat.mask S []) fun a fr => ?_
          refine sl_run orc_ok 2 rfl fr fun a fr => ?_
          obtain ⟨hc, h⟩ := ifs h
          refine sl_ld orc_ok (fun _ S => Rk.at rk1 S) fr rfl rfl rfl rfl rfl rfl rfl rfl rfl rfl rfl rfl rfl rfl rfl rfl rfl rfl hc (Sat.mask S []) fun a fr => ?_
          refine sl_run orc_ok 1 rfl fr fun a fr => ?_
          refine sl_end ?_
          refine then_n ?_
          refine cw_if fr rfl h (fun h => ?_) (fun h => ?_)
          · refine wp_seq ?_
            refine wp_region_lit ?_
            refine wl_run orc_ok 1 rfl fr fun a fr => ?_
            refine wpList_nil ?_
            refine then_n ?_
            refine wp_ret ?_
            refine blk_r ?_
            refine then_r ?_
            refine then_r ?_
            refine blk_r ?_
            refine then_r ?_
            injection h with h
            subst h
            refine ret1 fr rfl rfl ?_
            exact ⟨rfl, fr.vok (d := 4) rfl, S.mask []⟩
          · refine wp_skip ?_
            refine blk_n ?_
            refine then_n ?_
            refine wp_region_lit ?_
            refine wl_run orc_ok 3 rfl fr fun a fr => ?_
            refine wpList_nil ?_
            exact ⟨(IntKind.wrap .i64 (x1 + (1 : Int))), fr.sub ⟨rfl, rfl, rfl, trivial⟩, S, h⟩
        · refine wp_exit ?_
          refine then_e ?_
          refine then_e ?_
          refine blk_y ?_
          refine then_n ?_
          refine wp_seq ?_
          refine wp_region_lit ?_
          refine wl_run orc_ok 1 rfl fr fun a fr => ?_
          refine wpList_nil ?_
          refine then_n ?_
          refine wp_ret ?_
          injection h with h
          subst h
          refine ret1 fr rfl rfl ?_
          exact ⟨rfl, fr.vok (d := 4) rfl, S.mask []⟩
  exact (key w rfl (Sat.start w)).mono fun e w' ⟨h1, h2, h3⟩ => ⟨h1, h2, S.new h3.below⟩
set_option maxRecDepth 100000 in
set_option maxHeartbeats 4000000 in
theorem alive.walk (k : Nat)  {w0 w : World} {R : List Asn}  (S : Sat w0 w R) {r : Bool} (h : alive.f k = some r) :
    Calls Try.prog 17 #[] w fun e w' => e = .returned (.bool r) ∧ vok (.bool r) = true ∧ Sat w0 w' R := by
  have key : ∀ w0 : World, w0 = w → Sat w0 w [] → Calls Try.prog 17 #[] w fun e w' => e = .returned (.bool r) ∧ vok (.bool r) = true ∧ Sat w0 w' [] := by
    clear S
    intro w0 hw S
    clear hw
    unfold alive.f at h
    refine calls_start (N := 108) [] Try.func17 rfl rfl rfl rfl fun a fr => ?_
    refine wp_seq ?_
    refine wp_region_lit ?_
    refine wl_run orc_ok 1 rfl fr fun a fr => ?_
    refine wpList_nil ?_
    refine then_n ?_
    refine wp_seq ?_
    refine wp_region_lit ?_
    refine wl_lit (xs := [(1 : Int), (2 : Int)]) orc_ok lit22 fr rfl rfl rfl rfl ⟨rfl, rfl, rfl, rfl, trivial⟩ rfl rfl S ?_
    intro w A1 c2 S
    intro a fr
    have hv := (fr.vok (d := 18) rfl)
    refine wl_call fr rfl rfl rfl rfl en23 (ids_call hv) ?_
    rintro _ w ⟨rfl, hw⟩
    subst hw
    refine ⟨_, rfl, hv, fun a fr => ?_⟩
    refine wl_lit (xs := [(2 : Int), (3 : Int)]) orc_ok lit22 fr rfl rfl rfl rfl ⟨rfl, rfl, rfl, rfl, trivial⟩ rfl rfl S ?_
    intro w A3 c4 S
    intro a fr
    have hv := (fr.vok (d := 20) rfl)
    refine wl_call fr rfl rfl rfl rfl en23 (ids_call hv) ?_
    rintro _ w ⟨rfl, hw⟩
    subst hw
    refine ⟨_, rfl, hv, fun a fr => ?_⟩
    obtain ⟨hc, h⟩ := ifs h
    obtain ⟨y5, hx, h⟩ := lt_h h
    obtain ⟨y6, hx2, h⟩ := lt_h h
    have H := closes_call (A := A1) (c := c2) (l := [(1 : Int), (2 : Int)]) (A1 := A3) (c1 := c4) (l1 := [(2 : Int), (3 : Int)]) (who := (3 : Int)) (whom := (1 : Int)) (Sat.ownAt S 1 rfl) (Sat.ownAt S 0 rfl) (fr.slice (d := 19) rfl) (fr.slice (d := 21) rfl) rfl rfl hc S
    have hv := vok_cl (if List.length [(1 : Int), (2 : Int)] = List.length [(2 : Int), (3 : Int)] then comesB (List.zip [(1 : Int), (2 : Int)] [(2 : Int), (3 : Int)]) (1 : Int) (3 : Int) else false) (List.length [(1 : Int), (2 : Int)] = List.length [(2 : Int), (3 : Int)])
    rw [hx, hx2] at hv H
    refine wl_call fr rfl rfl rfl rfl en14 H ?_
    clear H
    rintro _ w ⟨rfl, S⟩
    refine ⟨_, rfl, hv, fun a fr => ?_⟩
    refine wl_run orc_ok 5 rfl fr fun a fr => ?_
    refine wpList_nil ?_
    refine then_n ?_
    refine wp_seq ?_
    refine wp_region_lit ?_
    refine wl_lit (xs := [(1 : Int), (2 : Int)]) orc_ok lit22 fr rfl rfl rfl rfl ⟨rfl, rfl, rfl, rfl, trivial⟩ rfl rfl S ?_
    intro w A7 c8 S
    intro a fr
    have hv := (fr.vok (d := 26) rfl)
    refine wl_call fr rfl rfl rfl rfl en23 (ids_call hv) ?_
    rintro _ w ⟨rfl, hw⟩
    subst hw
    refine ⟨_, rfl, hv, fun a fr => ?_⟩
    refine wl_lit (xs := [(2 : Int), (3 : Int)]) orc_ok lit22 fr rfl rfl rfl rfl ⟨rfl, rfl, rfl, rfl, trivial⟩ rfl rfl S ?_
    intro w A9 c10 S
    intro a fr
    have hv := (fr.vok (d := 28) rfl)
    refine wl_call fr rfl rfl rfl rfl en23 (ids_call hv) ?_
    rintro _ w ⟨rfl, hw⟩
    subst hw
    refine ⟨_, rfl, hv, fun a fr => ?_⟩
    obtain ⟨hc, h⟩ := ifs h
    obtain ⟨y11, hx, h⟩ := lt_h h
    obtain ⟨y12, hx2, h⟩ := lt_h h
    have H := closes_call (A := A7) (c := c8) (l := [(1 : Int), (2 : Int)]) (A1 := A9) (c1 := c10) (l1 := [(2 : Int), (3 : Int)]) (who := (1 : Int)) (whom := (3 : Int)) (Sat.ownAt S 1 rfl) (Sat.ownAt S 0 rfl) (fr.slice (d := 27) rfl) (fr.slice (d := 29) rfl) rfl rfl hc S
    have hv := vok_cl (if List.length [(1 : Int), (2 : Int)] = List.length [(2 : Int), (3 : Int)] then comesB (List.zip [(1 : Int), (2 : Int)] [(2 : Int), (3 : Int)]) (3 : Int) (1 : Int) else false) (List.length [(1 : Int), (2 : Int)] = List.length [(2 : Int), (3 : Int)])
    rw [hx, hx2] at hv H
    refine wl_call fr rfl rfl rfl rfl en14 H ?_
    clear H
    rintro _ w ⟨rfl, S⟩
    refine ⟨_, rfl, hv, fun a fr => ?_⟩
    refine wl_run orc_ok 5 rfl fr fun a fr => ?_
    refine wpList_nil ?_
    refine then_n ?_
    refine wp_seq ?_
    refine wp_region_lit ?_
    obtain ⟨hc, h⟩ := ifs h
    obtain ⟨y13, hx, h⟩ := lt_h h
    obtain ⟨y14, hx2, h⟩ := lt_h h
    have H := closes_call (A := none) (c := 0) (l := ([] : List Int)) (A1 := none) (c1 := 0) (l1 := ([] : List Int)) (who := (5 : Int)) (whom := (5 : Int)) Rk.nil Rk.nil ⟨Nat.le_refl _, Nat.zero_le _⟩ ⟨Nat.le_refl _, Nat.zero_le _⟩ rfl rfl hc S
    have hv := vok_cl (if List.length ([] : List Int) = List.length ([] : List Int) then comesB (List.zip ([] : List Int) ([] : List Int)) (5 : Int) (5 : Int) else false) (List.length ([] : List Int) = List.length ([] : List Int))
    rw [hx, hx2] at hv H
    refine wl_call fr rfl rfl rfl rfl en14 H ?_
    clear H
    rintro _ w ⟨rfl, S⟩
    refine ⟨_, rfl, hv, fun a fr => ?_⟩
    refine wl_run orc_ok 5 rfl fr fun a fr => ?_
    refine wpList_nil ?_
    refine then_n ?_
    refine wp_seq ?_
    refine wp_region_lit ?_
    refine wl_lit (xs := [(1 : Int)]) orc_ok lit22 fr rfl rfl rfl rfl ⟨rfl, rfl, trivial⟩ rfl rfl S ?_
    intro w A15 c16 S
    intro a fr
    have hv := (fr.vok (d := 38) rfl)
    refine wl_call fr rfl rfl rfl rfl en23 (ids_call hv) ?_
    rintro _ w ⟨rfl, hw⟩
    subst hw
    refine ⟨_, rfl, hv, fun a fr => ?_⟩
    obtain ⟨hc, h⟩ := ifs h
    obtain ⟨y17, hx, h⟩ := lt_h h
    obtain ⟨y18, hx2, h⟩ := lt_h h
    have H := closes_call (A := A15) (c := c16) (l := [(1 : Int)]) (A1 := none) (c1 := 0) (l1 := ([] : List Int)) (who := (1 : Int)) (whom := (2 : Int)) (Sat.ownAt S 0 rfl) Rk.nil (fr.slice (d := 39) rfl) ⟨Nat.le_refl _, Nat.zero_le _⟩ rfl rfl hc S
    have hv := vok_cl (if List.length [(1 : Int)] = List.length ([] : List Int) then comesB (List.zip [(1 : Int)] ([] : List Int)) (2 : Int) (1 : Int) else false) (List.length [(1 : Int)] = List.length ([] : List Int))
    rw [hx, hx2] at hv H
    refine wl_call fr rfl rfl rfl rfl en14 H ?_
    clear H
    rintro _ w ⟨rfl, S⟩
    refine ⟨_, rfl, hv, fun a fr => ?_⟩
    refine wl_run orc_ok 5 rfl fr fun a fr => ?_
    refine wpList_nil ?_
    refine then_n ?_
    refine wp_seq ?_
    refine wp_region_lit ?_
    refine wl_lit (xs := [(1 : Int), (2 : Int), (5 : Int)]) orc_ok lit22 fr rfl rfl rfl rfl ⟨rfl, rfl, rfl, rfl, rfl, rfl, trivial⟩ rfl rfl S ?_
    intro w A19 c20 S
    intro a fr
    have hv := (fr.vok (d := 44) rfl)
    refine wl_call fr rfl rfl rfl rfl en23 (ids_call hv) ?_
    rintro _ w ⟨rfl, hw⟩
    subst hw
    refine ⟨_, rfl, hv, fun a fr => ?_⟩
    refine wl_lit (xs := [(2 : Int), (3 : Int), (3 : Int)]) orc_ok lit22 fr rfl rfl rfl rfl ⟨rfl, rfl, rfl, rfl, rfl, rfl, trivial⟩ rfl rfl S ?_
    intro w A21 c22 S
    intro a fr
    have hv := (fr.vok (d := 46) rfl)
    refine wl_call fr rfl rfl rfl rfl en23 (ids_call hv) ?_
    rintro _ w ⟨rfl, hw⟩
    subst hw
    refine ⟨_, rfl, hv, fun a fr => ?_⟩
    obtain ⟨hc, h⟩ := ifs h
    obtain ⟨o23, hx, h⟩ := lt_h h
    have H := order_call (A := A19) (c := c20) (l := [(1 : Int), (2 : Int), (5 : Int)]) (A1 := A21) (c1 := c22) (l1 := [(2 : Int), (3 : Int), (3 : Int)]) (Sat.ownAt S 1 rfl) (Sat.ownAt S 0 rfl) (fr.slice (d := 45) rfl) (fr.slice (d := 47) rfl) hc S
    rw [hx] at H
    refine wl_call fr rfl rfl rfl rfl en18 H ?_
    clear H
    rintro _ w ⟨A24, c25, rfl, hv, S⟩
    refine ⟨_, rfl, hv, fun a fr => ?_⟩
    refine wl_run orc_ok 5 rfl fr fun a fr => ?_
    refine wpList_nil ?_
    refine then_n ?_
    refine wp_seq ?_
    refine wp_region_lit ?_
    refine wl_lit (xs := [(1 : Int), (2 : Int)]) orc_ok lit22 fr rfl rfl rfl rfl ⟨rfl, rfl, rfl, rfl, trivial⟩ rfl rfl S ?_
    intro w A26 c27 S
    intro a fr
    have hv := (fr.vok (d := 52) rfl)
    refine wl_call fr rfl rfl rfl rfl en23 (ids_call hv) ?_
    rintro _ w ⟨rfl, hw⟩
    subst hw
    refine ⟨_, rfl, hv, fun a fr => ?_⟩
    refine wl_lit (xs := [(2 : Int), (1 : Int)]) orc_ok lit22 fr rfl rfl rfl rfl ⟨rfl, rfl, rfl, rfl, trivial⟩ rfl rfl S ?_
    intro w A28 c29 S
    intro a fr
    have hv := (fr.vok (d := 54) rfl)
    refine wl_call fr rfl rfl rfl rfl en23 (ids_call hv) ?_
    rintro _ w ⟨rfl, hw⟩
    subst hw
    refine ⟨_, rfl, hv, fun a fr => ?_⟩
    obtain ⟨hc, h⟩ := ifs h
    obtain ⟨o30, hx, h⟩ := lt_h h
    have H := order_call (A := A26) (c := c27) (l := [(1 : Int), (2 : Int)]) (A1 := A28) (c1 := c29) (l1 := [(2 : Int), (1 : Int)]) (Sat.ownAt S 1 rfl) (Sat.ownAt S 0 rfl) (fr.slice (d := 53) rfl) (fr.slice (d := 55) rfl) hc S
    rw [hx] at H
    refine wl_call fr rfl rfl rfl rfl en18 H ?_
    clear H
    rintro _ w ⟨A31, c32, rfl, hv, S⟩
    refine ⟨_, rfl, hv, fun a fr => ?_⟩
    refine wl_run orc_ok 5 rfl fr fun a fr => ?_
    refine wpList_nil ?_
    refine then_n ?_
    refine wp_seq ?_
    refine wp_region_lit ?_
    refine wl_lit (xs := [(1 : Int)]) orc_ok lit22 fr rfl rfl rfl rfl ⟨rfl, rfl, trivial⟩ rfl rfl S ?_
    intro w A33 c34 S
    intro a fr
    have hv := (fr.vok (d := 60) rfl)
    refine wl_call fr rfl rfl rfl rfl en23 (ids_call hv) ?_
    rintro _ w ⟨rfl, hw⟩
    subst hw
    refine ⟨_, rfl, hv, fun a fr => ?_⟩
    refine wl_lit (xs := [(1 : Int)]) orc_ok lit22 fr rfl rfl rfl rfl ⟨rfl, rfl, trivial⟩ rfl rfl S ?_
    intro w A35 c36 S
    intro a fr
    have hv := (fr.vok (d := 62) rfl)
    refine wl_call fr rfl rfl rfl rfl en23 (ids_call hv) ?_
    rintro _ w ⟨rfl, hw⟩
    subst hw
    refine ⟨_, rfl, hv, fun a fr => ?_⟩
    obtain ⟨hc, h⟩ := ifs h
    obtain ⟨o37, hx, h⟩ := lt_h h
    have H := order_call (A := A33) (c := c34) (l := [(1 : Int)]) (A1 := A35) (c1 := c36) (l1 := [(1 : Int)]) (Sat.ownAt S 1 rfl) (Sat.ownAt S 0 rfl) (fr.slice (d := 61) rfl) (fr.slice (d := 63) rfl) hc S
    rw [hx] at H
    refine wl_call fr rfl rfl rfl rfl en18 H ?_
    clear H
    rintro _ w ⟨A38, c39, rfl, hv, S⟩
    refine ⟨_, rfl, hv, fun a fr => ?_⟩
    refine wl_run orc_ok 5 rfl fr fun a fr => ?_
    refine wpList_nil ?_
    refine then_n ?_
    refine wp_seq ?_
    refine wp_region_lit ?_
    obtain ⟨hc, h⟩ := ifs h
    obtain ⟨o40, hx, h⟩ := lt_h h
    have H := order_call (A := none) (c := 0) (l := ([] : List Int)) (A1 := none) (c1 := 0) (l1 := ([] : List Int)) Rk.nil Rk.nil ⟨Nat.le_refl _, Nat.zero_le _⟩ ⟨Nat.le_refl _, Nat.zero_le _⟩ hc S
    rw [hx] at H
    refine wl_call fr rfl rfl rfl rfl en18 H ?_
    clear H
    rintro _ w ⟨A41, c42, rfl, hv, S⟩
    refine ⟨_, rfl, hv, fun a fr => ?_⟩
    refine wl_run orc_ok 5 rfl fr fun a fr => ?_
    refine wpList_nil ?_
    refine then_n ?_
    refine wp_seq ?_
    refine wp_region_lit ?_
    refine wl_run orc_ok 2 rfl fr fun a fr => ?_
    refine wl_split 72 fr rfl h (fun fr h => ?_) (fun fr h => ?_)
    · refine wl_run orc_ok 4 rfl fr fun a fr => ?_
      refine wl_split 76 fr rfl h (fun fr h => ?_) (fun fr h => ?_)
      · refine wl_run orc_ok 3 rfl fr fun a fr => ?_
        refine wl_split 79 fr rfl h (fun fr h => ?_) (fun fr h => ?_)
        · refine wl_run orc_ok 4 rfl fr fun a fr => ?_
          refine wl_split 83 fr rfl h (fun fr h => ?_) (fun fr h => ?_)
          · refine wl_run orc_ok 3 rfl fr fun a fr => ?_
            refine wl_split 86 fr rfl h (fun fr h => ?_) (fun fr h => ?_)
            · refine wl_run orc_ok 1 rfl fr fun a fr => ?_
              refine wl_lit (xs := [(3 : Int), (2 : Int), (1 : Int), (5 : Int)]) orc_ok lit22 fr rfl rfl rfl rfl ⟨rfl, rfl, rfl, rfl, rfl, rfl, rfl, rfl, trivial⟩ rfl rfl S ?_
              intro w A43 c44 S
              intro a fr
              have hv := (fr.vok (d := 88) rfl)
              refine wl_call fr rfl rfl rfl rfl en23 (ids_call hv) ?_
              rintro _ w ⟨rfl, hw⟩
              subst hw
              refine ⟨_, rfl, hv, fun a fr => ?_⟩
              obtain ⟨r45, hr, h⟩ := bnd h
              refine wl_call fr rfl rfl rfl rfl en20 (SameIds.walk k A24 c25 (Option.getD o23 []) A43 c44 [(3 : Int), (2 : Int), (1 : Int), (5 : Int)] (Sat.ownAt S 8 rfl) (fr.slice (d := 87) rfl) (Sat.ownAt S 0 rfl) (fr.slice (d := 89) rfl) S hr) ?_
              rintro _ w ⟨rfl, hv, S⟩
              refine ⟨_, rfl, hv, fun a fr => ?_⟩
              refine wl_run orc_ok 2 rfl fr fun a fr => ?_
              refine wl_split 92 fr rfl h (fun fr h => ?_) (fun fr h => ?_)
              · refine wl_run orc_ok 4 rfl fr fun a fr => ?_
                refine wl_split 96 fr rfl h (fun fr h => ?_) (fun fr h => ?_)
                · refine wl_run orc_ok 4 rfl fr fun a fr => ?_
                  refine wl_split 100 fr rfl h (fun fr h => ?_) (fun fr h => ?_)
                  · refine wl_run orc_ok 3 rfl fr fun a fr => ?_
                    refine wl_split 103 fr rfl h (fun fr h => ?_) (fun fr h => ?_)
                    · refine wl_run orc_ok 5 rfl fr fun a fr => ?_
                      obtain ⟨y46, hx, h⟩ := lt_h h
                      have fr := fr.spell (d := 0) rfl (congrArg Value.bool hx)
                      refine wpList_nil ?_
                      refine then_n ?_
                      refine wp_ret ?_
                      injection h with h
                      subst h
                      refine ret1 fr rfl rfl ?_
                      exact ⟨rfl, fr.vok (d := 0) rfl, S.mask [false, false, false, false, false, false, false, false, false, false, false, false, false, false, false, false]⟩
                    · refine wl_run orc_ok 5 rfl fr fun a fr => ?_
                      refine wpList_nil ?_
                      refine then_n ?_
                      refine wp_ret ?_
                      injection h with h
                      subst h
                      refine ret1 fr rfl rfl ?_
                      exact ⟨rfl, fr.vok (d := 0) rfl, S.mask [false, false, false, false, false, false, false, false, false, false, false, false, false, false, false, false]⟩
                  · refine wl_run orc_ok 8 rfl fr fun a fr => ?_
                    refine wpList_nil ?_
                    refine then_n ?_
                    refine wp_ret ?_
                    injection h with h
                    subst h
                    refine ret1 fr rfl rfl ?_
                    exact ⟨rfl, fr.vok (d := 0) rfl, S.mask [false, false, false, false, false, false, false, false, false, false, false, false, false, false, false, false]⟩
                · refine wl_run orc_ok 12 rfl fr fun a fr => ?_
                  refine wpList_nil ?_
                  refine then_n ?_
                  refine wp_ret ?_
                  injection h with h
                  subst h
                  refine ret1 fr rfl rfl ?_
                  exact ⟨rfl, fr.vok (d := 0) rfl, S.mask [false, false, false, false, false, false, false, false, false, false, false, false, false, false, false, false]⟩
              · refine wl_run orc_ok 16 rfl fr fun a fr => ?_
                refine wpList_nil ?_
                refine then_n ?_
                refine wp_ret ?_
                injection h with h
                subst h
                refine ret1 fr rfl rfl ?_
                exact ⟨rfl, fr.vok (d := 0) rfl, S.mask [false, false, false, false, false, false, false, false, false, false, false, false, false, false, false, false]⟩
            · refine wl_run orc_ok 22 rfl fr fun a fr => ?_
              refine wpList_nil ?_
              refine then_n ?_
              refine wp_ret ?_
              injection h with h
              subst h
              refine ret1 fr rfl rfl ?_
              exact ⟨rfl, fr.vok (d := 0) rfl, S.mask [false, false, false, false, false, false, false, false, false, false, false, false, false, false, false]⟩
          · refine wl_run orc_ok 25 rfl fr fun a fr => ?_
            refine wpList_nil ?_
            refine then_n ?_
            refine wp_ret ?_
            injection h with h
            subst h
            refine ret1 fr rfl rfl ?_
            exact ⟨rfl, fr.vok (d := 0) rfl, S.mask [false, false, false, false, false, false, false, false, false, false, false, false, false, false, false]⟩
        · refine wl_run orc_ok 29 rfl fr fun a fr => ?_
          refine wpList_nil ?_
          refine then_n ?_
          refine wp_ret ?_
          injection h with h
          subst h
          refine ret1 fr rfl rfl ?_
          exact ⟨rfl, fr.vok (d := 0) rfl, S.mask [false, false, false, false, false, false, false, false, false, false, false, false, false, false, false]⟩
      · refine wl_run orc_ok 32 rfl fr fun a fr => ?_
        refine wpList_nil ?_
        refine then_n ?_
        refine wp_ret ?_
        injection h with h
        subst h
        refine ret1 fr rfl rfl ?_
        exact ⟨rfl, fr.vok (d := 0) rfl, S.mask [false, false, false, false, false, false, false, false, false, false, false, false, false, false, false]⟩
    · refine wl_run orc_ok 36 rfl fr fun a fr => ?_
      refine wpList_nil ?_
      refine then_n ?_
      refine wp_ret ?_
      injection h with h
      subst h
      refine ret1 fr rfl rfl ?_
      exact ⟨rfl, fr.vok (d := 0) rfl, S.mask [false, false, false, false, false, false, false, false, false, false, false, false, false, false, false]⟩
  exact (key w rfl (Sat.start w)).mono fun e w' ⟨h1, h2, h3⟩ => ⟨h1, h2, S.new h3.below⟩
set_option maxRecDepth 100000 in
set_option maxHeartbeats 4000000 in
theorem RingsTurned.walk (k : Nat) (A0 : Option Addr) (c0 : Nat) (l0 : List Int) (A1 : Option Addr) (c1 : Nat) (l1 : List Int) (a2 : Int) {w0 w : World} {R : List Asn} (rk0 : Rk .u32 w A0 l0) (m0 : l0.length ≤ c0 ∧ c0 ≤ maxLen) (rk1 : Rk .u32 w A1 l1) (m1 : l1.length ≤ c1 ∧ c1 ≤ maxLen) (v2 : (Lit.int .u8 a2).wf = true) (S : Sat w0 w R) {r : Bool} (h : RingsTurned.f k l0 l1 a2 = some r) :
    Calls Try.prog 8 #[(.slice A0 (List.length l0) c0), (.slice A1 (List.length l1) c1), (.int .u8 a2)] w fun e w' => e = .returned (.bool r) ∧ vok (.bool r) = true ∧ Sat w0 w' R := by
  have key : ∀ w0 : World, w0 = w → Sat w0 w [] → Calls Try.prog 8 #[(.slice A0 (List.length l0) c0), (.slice A1 (List.length l1) c1), (.int .u8 a2)] w fun e w' => e = .returned (.bool r) ∧ vok (.bool r) = true ∧ Sat w0 w' [] := by
    clear S
    intro w0 hw S
    rw [← hw] at rk0
    rw [← hw] at rk1
    clear hw
    unfold RingsTurned.f at h
    refine calls_start (N := 112) [(.slice A0 (List.length l0) c0), (.slice A1 (List.length l1) c1), (.int .u8 a2)] Try.func8 rfl rfl rfl (vok_c (vok_sl m0) (vok_c (vok_sl m1) (vok_c v2 rfl))) fun a fr => ?_
    refine wp_seq ?_
    refine wp_region_lit ?_
    refine wl_run orc_ok 1 rfl fr fun a fr => ?_
    refine wpList_nil ?_
    refine then_n ?_
    refine wp_seq ?_
    refine wp_seq ?_
    refine wp_region_lit ?_
    obtain ⟨r1, hr, h⟩ := bnd h
    refine wl_call fr rfl rfl rfl rfl en17 (alive.walk k  S hr) ?_
    rintro _ w ⟨rfl, hv, S⟩
    refine ⟨_, rfl, hv, fun a fr => ?_⟩
    refine wl_run orc_ok 2 rfl fr fun a fr => ?_
    refine wl_split 18 fr rfl h (fun fr h => ?_) (fun fr h => ?_)
    · refine wl_run orc_ok 16 rfl fr fun a fr => ?_
      refine wpList_nil ?_
      refine then_n ?_
      refine cw_t fr rfl ?_
      refine wp_seq ?_
      refine wp_region_lit ?_
      obtain ⟨r2, hr, h⟩ := bnd h
      refine wl_call fr rfl rfl rfl rfl en17 (alive.walk k  S hr) ?_
      rintro _ w ⟨rfl, hv, S⟩
      refine ⟨_, rfl, hv, fun a fr => ?_⟩
      refine wl_run orc_ok 1 rfl fr fun a fr => ?_
      refine wpList_nil ?_
      refine then_n ?_
      refine wp_ret ?_
      refine then_r ?_
      injection h with h
      subst h
      refine ret1 fr rfl rfl ?_
      exact ⟨rfl, fr.vok (d := 6) rfl, S.mask []⟩
    · refine wl_run orc_ok 5 rfl fr fun a fr => ?_
      refine wl_split 23 fr rfl h (fun fr h => ?_) (fun fr h => ?_)
      · refine wl_run orc_ok 11 rfl fr fun a fr => ?_
        refine wpList_nil ?_
        refine then_n ?_
        refine cw_t fr rfl ?_
        refine wp_seq ?_
        refine wp_region_lit ?_
        obtain ⟨r3, hr, h⟩ := bnd h
        refine wl_call fr rfl rfl rfl rfl en17 (alive.walk k  S hr) ?_
        rintro _ w ⟨rfl, hv, S⟩
        refine ⟨_, rfl, hv, fun a fr => ?_⟩
        refine wl_run orc_ok 1 rfl fr fun a fr => ?_
        refine wpList_nil ?_
        refine then_n ?_
        refine wp_ret ?_
        refine then_r ?_
        injection h with h
        subst h
        refine ret1 fr rfl rfl ?_
        exact ⟨rfl, fr.vok (d := 6) rfl, S.mask []⟩
      · refine wl_run orc_ok 7 rfl fr fun a fr => ?_
        refine wl_split 30 fr rfl h (fun fr h => ?_) (fun fr h => ?_)
        · refine wl_run orc_ok 4 rfl fr fun a fr => ?_
          refine wpList_nil ?_
          refine then_n ?_
          refine cw_t fr rfl ?_
          refine wp_seq ?_
          refine wp_region_lit ?_
          obtain ⟨r4, hr, h⟩ := bnd h
          refine wl_call fr rfl rfl rfl rfl en17 (alive.walk k  S hr) ?_
          rintro _ w ⟨rfl, hv, S⟩
          refine ⟨_, rfl, hv, fun a fr => ?_⟩
          refine wl_run orc_ok 1 rfl fr fun a fr => ?_
          refine wpList_nil ?_
          refine then_n ?_
          refine wp_ret ?_
          refine then_r ?_
          injection h with h
          subst h
          refine ret1 fr rfl rfl ?_
          exact ⟨rfl, fr.vok (d := 6) rfl, S.mask []⟩
        · refine wl_run orc_ok 4 rfl fr fun a fr => ?_
          refine wpList_nil ?_
          refine then_n ?_
          refine cw_if fr rfl h (fun h => ?_) (fun h => ?_)
          · refine wp_seq ?_
            refine wp_region_lit ?_
            obtain ⟨r5, hr, h⟩ := bnd h
            refine wl_call fr rfl rfl rfl rfl en17 (alive.walk k  S hr) ?_
            rintro _ w ⟨rfl, hv, S⟩
            refine ⟨_, rfl, hv, fun a fr => ?_⟩
            refine wl_run orc_ok 1 rfl fr fun a fr => ?_
            refine wpList_nil ?_
            refine then_n ?_
            refine wp_ret ?_
            refine then_r ?_
            injection h with h
            subst h
            refine ret1 fr rfl rfl ?_
            exact ⟨rfl, fr.vok (d := 6) rfl, S.mask []⟩
          · refine wp_skip ?_
            refine then_n ?_
            refine wp_seq ?_
            refine wp_region_lit ?_
            refine wl_run orc_ok 4 rfl fr fun a fr => ?_
            obtain ⟨hc, h⟩ := ifs h
            refine wl_pv orc_ok fr rfl rfl rfl (po_rem rfl rfl rfl hc) fun a fr => ?_
            refine wl_run orc_ok 1 rfl fr fun a fr => ?_
            obtain ⟨y6, hx, h⟩ := lt_h h
            have fr := fr.spell (d := 7) rfl (congrArg (Value.int .i64) hx)
            refine wpList_nil ?_
            refine then_n ?_
            refine wp_seq ?_
            refine wp_region_lit ?_
            refine wl_run orc_ok 2 rfl fr fun a fr => ?_
            refine wpList_nil ?_
            refine then_n ?_
            refine wp_seq ?_
            obtain ⟨hc_1, h⟩ := ifs h
            obtain ⟨hc_2, h⟩ := ifs h
            obtain ⟨hc_3, h⟩ := ifs h
            obtain ⟨hc_4, h⟩ := ifs h
            obtain ⟨hc_5, h⟩ := ifs h
            refine wp_region_pool (fun n => match n with | 0 => fun a w => Fr 112 a [(0, (.slice A0 (List.length l0) c0)), (1, (.slice A1 (List.length l1) c1)), (2, (.int .u8 a2)), (6, (.bool false)), (7, (.int .i64 y6)), (8, (.slice none 0 0)), (9, (.slice none 0 0)), (16, (.bool r1)), (17, (.bool (!r1))), (18, (.bool false)), (19, (.slice A0 (List.length l0) c0)), (20, (.int .i64 (List.length l0 : Int))), (21, (.bool (decide ((List.length l0 : Int) > (30 : Int))))), (22, (.bool (decide ((List.length l0 : Int) > (30 : Int))))), (23, (.bool false)), (24, (.slice A0 (List.length l0) c0)), (25, (.int .i64 (List.length l0 : Int))), (26, (.slice A1 (List.length l1) c1)), (27, (.int .i64 (List.length l1 : Int))), (28, (.bool ((List.length l0 : Int) != (List.length l1 : Int)))), (29, (.bool ((List.length l0 : Int) != (List.length l1 : Int)))), (30, (.bool false)), (31, (.slice A0 (List.length l0) c0)), (32, (.int .i64 (List.length l0 : Int))), (33, (.bool ((List.length l0 : Int) == (0 : Int)))), (34, (.bool ((List.length l0 : Int) == (0 : Int)))), (36, (.int .u8 a2)), (37, (.int .i64 (IntKind.wrap .i64 a2))), (38, (.slice A0 (List.length l0) c0)), (39, (.int .i64 (List.length l0 : Int))), (40, (.int .i64 (Int.tmod (IntKind.wrap .i64 a2) (List.length l0 : Int)))), (41, (.slice none 0 0)), (42, (.slice A0 (List.length l0) c0)), (43, (.int .i64 y6)), (44, (.slice (dropA A0 c0 (Int.toNat y6)) (List.length (List.drop (Int.toNat y6) l0)) (c0 - Int.toNat y6))), (46, (.slice A0 (List.length l0) c0)), (47, (.int .i64 y6)), (48, (.slice A0 (List.length (List.take (Int.toNat y6) l0)) c0)), (50, (.slice A0 (List.length l0) c0)), (51, (.int .i64 y6)), (53, (.int .u32 (List.getD l0 (Int.toNat y6) 0)))] ∧ Sat w0 w [] | 1 => fun a w => ∃ A8 : Option Addr, ∃ c9 : Nat, Fr 112 a [(0, (.slice A0 (List.length l0) c0)), (1, (.slice A1 (List.length l1) c1)), (2, (.int .u8 a2)), (6, (.bool false)), (7, (.int .i64 y6)), (8, (.slice none 0 0)), (9, (.slice none 0 0)), (16, (.bool r1)), (17, (.bool (!r1))), (18, (.bool false)), (19, (.slice A0 (List.length l0) c0)), (20, (.int .i64 (List.length l0 : Int))), (21, (.bool (decide ((List.length l0 : Int) > (30 : Int))))), (22, (.bool (decide ((List.length l0 : Int) > (30 : Int))))), (23, (.bool false)), (24, (.slice A0 (List.length l0) c0)), (25, (.int .i64 (List.length l0 : Int))), (26, (.slice A1 (List.length l1) c1)), (27, (.int .i64 (List.length l1 : Int))), (28, (.bool ((List.length l0 : Int) != (List.length l1 : Int)))), (29, (.bool ((List.length l0 : Int) != (List.length l1 : Int)))), (30, (.bool false)), (31, (.slice A0 (List.length l0) c0)), (32, (.int .i64 (List.length l0 : Int))), (33, (.bool ((List.length l0 : Int) == (0 : Int)))), (34, (.bool ((List.length l0 : Int) == (0 : Int)))), (36, (.int .u8 a2)), (37, (.int .i64 (IntKind.wrap .i64 a2))), (38, (.slice A0 (List.length l0) c0)), (39, (.int .i64 (List.length l0 : Int))), (40, (.int .i64 (Int.tmod (IntKind.wrap .i64 a2) (List.length l0 : Int)))), (41, (.slice none 0 0)), (42, (.slice A0 (List.length l0) c0)), (43, (.int .i64 y6)), (44, (.slice (dropA A0 c0 (Int.toNat y6)) (List.length (List.drop (Int.toNat y6) l0)) (c0 - Int.toNat y6))), (45, (.slice A8 (List.length (([] : List Int) ++ (List.drop (Int.toNat y6) l0))) c9)), (46, (.slice A0 (List.length l0) c0)), (47, (.int .i64 y6)), (48, (.slice A0 (List.length (List.take (Int.toNat y6) l0)) c0)), (50, (.slice A0 (List.length l0) c0)), (51, (.int .i64 y6)), (53, (.int .u32 (List.getD l0 (Int.toNat y6) 0)))] ∧ Sat w0 w [ownA .u32 23 A8 c9 (([] : List Int) ++ (List.drop (Int.toNat y6) l0))] | 2 => fun a w => ∃ A14 : Option Addr, ∃ c15 : Nat, Fr 112 a [(0, (.slice A0 (List.length l0) c0)), (1, (.slice A1 (List.length l1) c1)), (2, (.int .u8 a2)), (6, (.bool false)), (7, (.int .i64 y6)), (8, (.slice none 0 0)), (9, (.slice none 0 0)), (16, (.bool r1)), (17, (.bool (!r1))), (18, (.bool false)), (19, (.slice A0 (List.length l0) c0)), (20, (.int .i64 (List.length l0 : Int))), (21, (.bool (decide ((List.length l0 : Int) > (30 : Int))))), (22, (.bool (decide ((List.length l0 : Int) > (30 : Int))))), (23, (.bool false)), (24, (.slice A0 (List.length l0) c0)), (25, (.int .i64 (List.length l0 : Int))), (26, (.slice A1 (List.length l1) c1)), (27, (.int .i64 (List.length l1 : Int))), (28, (.bool ((List.length l0 : Int) != (List.length l1 : Int)))), (29, (.bool ((List.length l0 : Int) != (List.length l1 : Int)))), (30, (.bool false)), (31, (.slice A0 (List.length l0) c0)), (32, (.int .i64 (List.length l0 : Int))), (33, (.bool ((List.length l0 : Int) == (0 : Int)))), (34, (.bool ((List.length l0 : Int) == (0 : Int)))), (36, (.int .u8 a2)), (37, (.int .i64 (IntKind.wrap .i64 a2))), (38, (.slice A0 (List.length l0) c0)), (39, (.int .i64 (List.length l0 : Int))), (40, (.int .i64 (Int.tmod (IntKind.wrap .i64 a2) (List.length l0 : Int)))), (41, (.slice none 0 0)), (42, (.slice A0 (List.length l0) c0)), (43, (.int .i64 y6)), (44, (.slice (dropA A0 c0 (Int.toNat y6)) (List.length (List.drop (Int.toNat y6) l0)) (c0 - Int.toNat y6))), (46, (.slice A0 (List.length l0) c0)), (47, (.int .i64 y6)), (48, (.slice A0 (List.length (List.take (Int.toNat y6) l0)) c0)), (50, (.slice A0 (List.length l0) c0)), (51, (.int .i64 y6)), (53, (.int .u32 (List.getD l0 (Int.toNat y6) 0))), (54, (.slice A14 (List.length [(List.getD l0 (Int.toNat y6) 0)]) c15))] ∧ Sat w0 w [ownA .u32 23 A14 c15 [(List.getD l0 (Int.toNat y6) 0)]] | 3 => fun a w => ∃ A10 : Option Addr, ∃ c11 : Nat, Fr 112 a [(0, (.slice A0 (List.length l0) c0)), (1, (.slice A1 (List.length l1) c1)), (2, (.int .u8 a2)), (6, (.bool false)), (7, (.int .i64 y6)), (8, (.slice none 0 0)), (9, (.slice none 0 0)), (16, (.bool r1)), (17, (.bool (!r1))), (18, (.bool false)), (19, (.slice A0 (List.length l0) c0)), (20, (.int .i64 (List.length l0 : Int))), (21, (.bool (decide ((List.length l0 : Int) > (30 : Int))))), (22, (.bool (decide ((List.length l0 : Int) > (30 : Int))))), (23, (.bool false)), (24, (.slice A0 (List.length l0) c0)), (25, (.int .i64 (List.length l0 : Int))), (26, (.slice A1 (List.length l1) c1)), (27, (.int .i64 (List.length l1 : Int))), (28, (.bool ((List.length l0 : Int) != (List.length l1 : Int)))), (29, (.bool ((List.length l0 : Int) != (List.length l1 : Int)))), (30, (.bool false)), (31, (.slice A0 (List.length l0) c0)), (32, (.int .i64 (List.length l0 : Int))), (33, (.bool ((List.length l0 : Int) == (0 : Int)))), (34, (.bool ((List.length l0 : Int) == (0 : Int)))), (36, (.int .u8 a2)), (37, (.int .i64 (IntKind.wrap .i64 a2))), (38, (.slice A0 (List.length l0) c0)), (39, (.int .i64 (List.length l0 : Int))), (40, (.int .i64 (Int.tmod (IntKind.wrap .i64 a2) (List.length l0 : Int)))), (41, (.slice none 0 0)), (42, (.slice A0 (List.length l0) c0)), (43, (.int .i64 y6)), (44, (.slice (dropA A0 c0 (Int.toNat y6)) (List.length (List.drop (Int.toNat y6) l0)) (c0 - Int.toNat y6))), (46, (.slice A0 (List.length l0) c0)), (47, (.int .i64 y6)), (48, (.slice A0 (List.length (List.take (Int.toNat y6) l0)) c0)), (49, (.slice A10 (List.length ((([] : List Int) ++ (List.drop (Int.toNat y6) l0)) ++ (List.take (Int.toNat y6) l0))) c11)), (50, (.slice A0 (List.length l0) c0)), (51, (.int .i64 y6)), (53, (.int .u32 (List.getD l0 (Int.toNat y6) 0)))] ∧ Sat w0 w [ownA .u32 23 A10 c11 ((([] : List Int) ++ (List.drop (Int.toNat y6) l0)) ++ (List.take (Int.toNat y6) l0))] | 4 => fun a w => ∃ A18 : Option Addr, ∃ c19 : Nat, ∃ A16 : Option Addr, ∃ c17 : Nat, Fr 112 a [(0, (.slice A0 (List.length l0) c0)), (1, (.slice A1 (List.length l1) c1)), (2, (.int .u8 a2)), (6, (.bool false)), (7, (.int .i64 y6)), (8, (.slice none 0 0)), (9, (.slice none 0 0)), (16, (.bool r1)), (17, (.bool (!r1))), (18, (.bool false)), (19, (.slice A0 (List.length l0) c0)), (20, (.int .i64 (List.length l0 : Int))), (21, (.bool (decide ((List.length l0 : Int) > (30 : Int))))), (22, (.bool (decide ((List.length l0 : Int) > (30 : Int))))), (23, (.bool false)), (24, (.slice A0 (List.length l0) c0)), (25, (.int .i64 (List.length l0 : Int))), (26, (.slice A1 (List.length l1) c1)), (27, (.int .i64 (List.length l1 : Int))), (28, (.bool ((List.length l0 : Int) != (List.length l1 : Int)))), (29, (.bool ((List.length l0 : Int) != (List.length l1 : Int)))), (30, (.bool false)), (31, (.slice A0 (List.length l0) c0)), (32, (.int .i64 (List.length l0 : Int))), (33, (.bool ((List.length l0 : Int) == (0 : Int)))), (34, (.bool ((List.length l0 : Int) == (0 : Int)))), (36, (.int .u8 a2)), (37, (.int .i64 (IntKind.wrap .i64 a2))), (38, (.slice A0 (List.length l0) c0)), (39, (.int .i64 (List.length l0 : Int))), (40, (.int .i64 (Int.tmod (IntKind.wrap .i64 a2) (List.length l0 : Int)))), (41, (.slice none 0 0)), (42, (.slice A0 (List.length l0) c0)), (43, (.int .i64 y6)), (44, (.slice (dropA A0 c0 (Int.toNat y6)) (List.length (List.drop (Int.toNat y6) l0)) (c0 - Int.toNat y6))), (45, (.slice A16 (List.length (([] : List Int) ++ (List.drop (Int.toNat y6) l0))) c17)), (46, (.slice A0 (List.length l0) c0)), (47, (.int .i64 y6)), (48, (.slice A0 (List.length (List.take (Int.toNat y6) l0)) c0)), (50, (.slice A0 (List.length l0) c0)), (51, (.int .i64 y6)), (53, (.int .u32 (List.getD l0 (Int.toNat y6) 0))), (54, (.slice A18 (List.length [(List.getD l0 (Int.toNat y6) 0)]) c19))] ∧ Sat w0 w [ownA .u32 23 A18 c19 [(List.getD l0 (Int.toNat y6) 0)], ownA .u32 23 A16 c17 (([] : List Int) ++ (List.drop (Int.toNat y6) l0))] | 5 => fun a w => ∃ A12 : Option Addr, ∃ c13 : Nat, ∃ A10 : Option Addr, ∃ c11 : Nat, Fr 112 a [(0, (.slice A0 (List.length l0) c0)), (1, (.slice A1 (List.length l1) c1)), (2, (.int .u8 a2)), (6, (.bool false)), (7, (.int .i64 y6)), (8, (.slice none 0 0)), (9, (.slice none 0 0)), (16, (.bool r1)), (17, (.bool (!r1))), (18, (.bool false)), (19, (.slice A0 (List.length l0) c0)), (20, (.int .i64 (List.length l0 : Int))), (21, (.bool (decide ((List.length l0 : Int) > (30 : Int))))), (22, (.bool (decide ((List.length l0 : Int) > (30 : Int))))), (23, (.bool false)), (24, (.slice A0 (List.length l0) c0)), (25, (.int .i64 (List.length l0 : Int))), (26, (.slice A1 (List.length l1) c1)), (27, (.int .i64 (List.length l1 : Int))), (28, (.bool ((List.length l0 : Int) != (List.length l1 : Int)))), (29, (.bool ((List.length l0 : Int) != (List.length l1 : Int)))), (30, (.bool false)), (31, (.slice A0 (List.length l0) c0)), (32, (.int .i64 (List.length l0 : Int))), (33, (.bool ((List.length l0 : Int) == (0 : Int)))), (34, (.bool ((List.length l0 : Int) == (0 : Int)))), (36, (.int .u8 a2)), (37, (.int .i64 (IntKind.wrap .i64 a2))), (38, (.slice A0 (List.length l0) c0)), (39, (.int .i64 (List.length l0 : Int))), (40, (.int .i64 (Int.tmod (IntKind.wrap .i64 a2) (List.length l0 : Int)))), (41, (.slice none 0 0)), (42, (.slice A0 (List.length l0) c0)), (43, (.int .i64 y6)), (44, (.slice (dropA A0 c0 (Int.toNat y6)) (List.length (List.drop (Int.toNat y6) l0)) (c0 - Int.toNat y6))), (46, (.slice A0 (List.length l0) c0)), (47, (.int .i64 y6)), (48, (.slice A0 (List.length (List.take (Int.toNat y6) l0)) c0)), (49, (.slice A10 (List.length ((([] : List Int) ++ (List.drop (Int.toNat y6) l0)) ++ (List.take (Int.toNat y6) l0))) c11)), (50, (.slice A0 (List.length l0) c0)), (51, (.int .i64 y6)), (53, (.int .u32 (List.getD l0 (Int.toNat y6) 0))), (54, (.slice A12 (List.length [(List.getD l0 (Int.toNat y6) 0)]) c13))] ∧ Sat w0 w [ownA .u32 23 A12 c13 [(List.getD l0 (Int.toNat y6) 0)], ownA .u32 23 A10 c11 ((([] : List Int) ++ (List.drop (Int.toNat y6) l0)) ++ (List.take (Int.toNat y6) l0))] | _ => fun _ _ => False) [.one (0, true, some 41), .one (1, true, some 42), .one (2, true, some 43), .one (3, true, some 44), .one (5, true, some 46), .one (6, true, some 47), .one (7, true, some 48), .one (9, true, some 50), .one (10, true, some 51), .one (11, true, some 52), .one (12, true, some 53)]
              [.one ⟨true, some 41, (Go.Op.move (Go.Operand.tmp 8)), 22, none⟩,
    .one ⟨true, some 42, (Go.Op.move (Go.Operand.tmp 0)), 22, none⟩,
    .one ⟨true, some 43, (Go.Op.move (Go.Operand.tmp 7)), 3, none⟩,
    .one ⟨true, some 44, (Go.Op.slice 22 (Go.Operand.tmp 42) (some (Go.Operand.tmp 43)) none none), 22, none⟩,
    .one ⟨true, some 46, (Go.Op.move (Go.Operand.tmp 0)), 22, none⟩,
    .one ⟨true, some 47, (Go.Op.move (Go.Operand.tmp 7)), 3, none⟩,
    .one ⟨true, some 48, (Go.Op.slice 22 (Go.Operand.tmp 46) none (some (Go.Operand.tmp 47)) none), 22, none⟩,
    .one ⟨true, some 50, (Go.Op.move (Go.Operand.tmp 0)), 22, none⟩,
    .one ⟨true, some 51, (Go.Op.move (Go.Operand.tmp 7)), 3, none⟩,
    .one ⟨true, some 52, (Go.Op.indexAddr 22 (Go.Operand.tmp 50) (Go.Operand.tmp 51)), 0, none⟩,
    .one ⟨true, some 53, (Go.Op.load 23 (Go.Operand.tmp 52)), 23, none⟩]
              [⟨0, #[true, true, true, true, false, true, true, true, false, true, true, true, true, false, false, false], [(4, some 45, 1), (13, some 54, 2)]⟩, ⟨1, #[true, true, true, true, true, true, true, true, false, true, true, true, true, false, false, false], [(8, some 49, 3), (13, some 54, 4)]⟩, ⟨2, #[true, true, true, true, false, true, true, true, false, true, true, true, true, true, false, false], [(4, some 45, 4)]⟩, ⟨3, #[true, true, true, true, true, true, true, true, true, true, true, true, true, false, false, false], [(13, some 54, 5)]⟩, ⟨4, #[true, true, true, true, true, true, true, true, false, true, true, true, true, true, false, false], [(8, some 49, 5)]⟩]
              ⟨0, #[true, true, true, true, false, true, true, true, false, true, true, true, true, false, false, false], [(4, some 45, 1), (13, some 54, 2)]⟩
              [(0, [(⟨false, some 45, (Go.Op.call { callee := (Go.Callee.builtin Go.Builtin.append), args := #[(Go.Operand.tmp 41), (Go.Operand.tmp 44)], argTypes := #[22, 22] }), 22, none⟩, 1), (⟨false, some 54, (Go.Op.buildSlice 22 1 #[(0, (Go.Operand.tmp 53))]), 22, none⟩, 2)]), (1, [(⟨false, some 49, (Go.Op.call { callee := (Go.Callee.builtin Go.Builtin.append), args := #[(Go.Operand.tmp 45), (Go.Operand.tmp 48)], argTypes := #[22, 22] }), 22, none⟩, 3), (⟨false, some 54, (Go.Op.buildSlice 22 1 #[(0, (Go.Operand.tmp 53))]), 22, none⟩, 4)]), (2, [(⟨false, some 45, (Go.Op.call { callee := (Go.Callee.builtin Go.Builtin.append), args := #[(Go.Operand.tmp 41), (Go.Operand.tmp 44)], argTypes := #[22, 22] }), 22, none⟩, 4)]), (3, [(⟨false, some 54, (Go.Op.buildSlice 22 1 #[(0, (Go.Operand.tmp 53))]), 22, none⟩, 5)]), (4, [(⟨false, some 49, (Go.Op.call { callee := (Go.Callee.builtin Go.Builtin.append), args := #[(Go.Operand.tmp 45), (Go.Operand.tmp 48)], argTypes := #[22, 22] }), 22, none⟩, 5)])]
              #[true, true, true, true, true, true, true, true, true, true, true, true, true, true, false, false] 5 [.one (14, false, some 55), .one (15, true, some 8)]
              [.one ⟨false, some 55, (Go.Op.call { callee := (Go.Callee.builtin Go.Builtin.append), args := #[(Go.Operand.tmp 49), (Go.Operand.tmp 54)], argTypes := #[22, 22] }), 22, none⟩,
    .one ⟨true, some 8, (Go.Op.assign (Go.Operand.tmp 55)), 22, none⟩]
              (fun w => Sat w0 w []) rfl (by kernel_rfl) (List.mem_cons_self) (by kernel_rfl) (by kernel_rfl) (by kernel_rfl) (by kernel_rfl) (S.drew.mask []) ?_ ⟨⟨?_, ?_, trivial⟩, ⟨?_, ?_, trivial⟩, ⟨?_, trivial⟩, ⟨?_, trivial⟩, ⟨?_, trivial⟩, trivial⟩ ?_
            · have S := S.drew
              refine sl_run orc_ok 3 rfl fr fun a fr => ?_
              refine sl_dropq orc_ok fr rfl rfl rfl rfl rfl rfl rfl rfl info23 rfl hc_1 fun a fr => ?_
              refine sl_run orc_ok 2 rfl fr fun a fr => ?_
              refine sl_takeq orc_ok fr rfl rfl rfl rfl rfl rfl rfl rfl rfl rfl hc_2 fun a fr => ?_
              refine sl_run orc_ok 2 rfl fr fun a fr => ?_
              refine sl_ld orc_ok (fun _ S => Rk.at rk0 S) fr rfl rfl rfl rfl rfl rfl rfl rfl rfl rfl rfl rfl rfl rfl rfl rfl rfl rfl hc_3 (Sat.mask S []) fun a fr => ?_
              refine sl_end ?_
              exact ⟨rfl, fr.sub ⟨rfl, rfl, rfl, rfl, rfl, rfl, rfl, rfl, rfl, rfl, rfl, rfl, rfl, rfl, rfl, rfl, rfl, rfl, rfl, rfl, rfl, rfl, rfl, rfl, rfl, rfl, rfl, rfl, rfl, rfl, rfl, rfl, rfl, rfl, rfl, rfl, rfl, rfl, rfl, rfl, rfl, trivial⟩, S⟩
            · intro a w hS hI
              obtain ⟨fr, S⟩ := hI
              have S : Sat w0 _ [ownA .u32 23 none 0 ([] : List Int)] := S.nilRow .u32 23
              have hy := (Rk.at (Rk.drop (n := Int.toNat y6) rk0 m0.1) S)
              refine sl_app lit22 fr rfl rfl rfl rfl rfl rfl rfl rfl rfl hy hc_4 S ?_
              intro w A72 c73 S
              refine ⟨(Sat.mask S [false]), fun a fr => ?_⟩
              refine sl_end ?_
              exact ⟨rfl, A72, c73, fr.sub ⟨rfl, rfl, rfl, rfl, rfl, rfl, rfl, rfl, rfl, rfl, rfl, rfl, rfl, rfl, rfl, rfl, rfl, rfl, rfl, rfl, rfl, rfl, rfl, rfl, rfl, rfl, rfl, rfl, rfl, rfl, rfl, rfl, rfl, rfl, rfl, rfl, rfl, rfl, rfl, rfl, rfl, rfl, trivial⟩, S⟩
            · intro a w hS hI
              obtain ⟨fr, S⟩ := hI
              refine sl_lit (xs := [(List.getD l0 (Int.toNat y6) 0)]) orc_ok lit22 fr rfl rfl rfl rfl rfl ⟨rfl, rfl, trivial⟩ rfl rfl S ?_
              intro w A74 c75 S
              refine ⟨(Sat.mask S [false]), fun a fr => ?_⟩
              refine sl_end ?_
              exact ⟨rfl, A74, c75, fr.sub ⟨rfl, rfl, rfl, rfl, rfl, rfl, rfl, rfl, rfl, rfl, rfl, rfl, rfl, rfl, rfl, rfl, rfl, rfl, rfl, rfl, rfl, rfl, rfl, rfl, rfl, rfl, rfl, rfl, rfl, rfl, rfl, rfl, rfl, rfl, rfl, rfl, rfl, rfl, rfl, rfl, rfl, rfl, trivial⟩, S⟩
            · intro a w hS hI
              obtain ⟨A8, c9, fr, S⟩ := hI
              have hy := (Rk.at (Rk.take rk0 (Int.toNat y6)) S)
              refine sl_app lit22 fr rfl rfl rfl rfl rfl rfl rfl rfl rfl hy hc_5 S ?_
              intro w A76 c77 S
              refine ⟨(Sat.mask S [false]), fun a fr => ?_⟩
              refine sl_end ?_
              exact ⟨rfl, A76, c77, fr.sub ⟨rfl, rfl, rfl, rfl, rfl, rfl, rfl, rfl, rfl, rfl, rfl, rfl, rfl, rfl, rfl, rfl, rfl, rfl, rfl, rfl, rfl, rfl, rfl, rfl, rfl, rfl, rfl, rfl, rfl, rfl, rfl, rfl, rfl, rfl, rfl, rfl, rfl, rfl, rfl, rfl, rfl, rfl, trivial⟩, S⟩
            · intro a w hS hI
              obtain ⟨A8, c9, fr, S⟩ := hI
              refine sl_lit (xs := [(List.getD l0 (Int.toNat y6) 0)]) orc_ok lit22 fr rfl rfl rfl rfl rfl ⟨rfl, rfl, trivial⟩ rfl rfl S ?_
              intro w A78 c79 S
              refine ⟨(Sat.mask S [false, false]), fun a fr => ?_⟩
              refine sl_end ?_
              exact ⟨rfl, A78, c79, A8, c9, fr.sub ⟨rfl, rfl, rfl, rfl, rfl, rfl, rfl, rfl, rfl, rfl, rfl, rfl, rfl, rfl, rfl, rfl, rfl, rfl, rfl, rfl, rfl, rfl, rfl, rfl, rfl, rfl, rfl, rfl, rfl, rfl, rfl, rfl, rfl, rfl, rfl, rfl, rfl, rfl, rfl, rfl, rfl, rfl, rfl, trivial⟩, S⟩
            · intro a w hS hI
              obtain ⟨A14, c15, fr, S⟩ := hI
              have S : Sat w0 _ [ownA .u32 23 none 0 ([] : List Int), ownA .u32 23 A14 c15 [(List.getD l0 (Int.toNat y6) 0)]] := S.nilRow .u32 23
              have hy := (Rk.at (Rk.drop (n := Int.toNat y6) rk0 m0.1) S)
              refine sl_app lit22 fr rfl rfl rfl rfl rfl rfl rfl rfl rfl hy hc_4 S ?_
              intro w A80 c81 S
              refine ⟨(Sat.mask S [false, false]), fun a fr => ?_⟩
              refine sl_end ?_
              have S : Sat w0 _ [ownA .u32 23 A14 c15 [(List.getD l0 (Int.toNat y6) 0)], ownA .u32 23 A80 c81 (([] : List Int) ++ (List.drop (Int.toNat y6) l0))] := S.frontAt 1 rfl
              exact ⟨rfl, A14, c15, A80, c81, fr.sub ⟨rfl, rfl, rfl, rfl, rfl, rfl, rfl, rfl, rfl, rfl, rfl, rfl, rfl, rfl, rfl, rfl, rfl, rfl, rfl, rfl, rfl, rfl, rfl, rfl, rfl, rfl, rfl, rfl, rfl, rfl, rfl, rfl, rfl, rfl, rfl, rfl, rfl, rfl, rfl, rfl, rfl, rfl, rfl, trivial⟩, S⟩
            · intro a w hS hI
              obtain ⟨A10, c11, fr, S⟩ := hI
              refine sl_lit (xs := [(List.getD l0 (Int.toNat y6) 0)]) orc_ok lit22 fr rfl rfl rfl rfl rfl ⟨rfl, rfl, trivial⟩ rfl rfl S ?_
              intro w A82 c83 S
              refine ⟨(Sat.mask S [false, false]), fun a fr => ?_⟩
              refine sl_end ?_
              exact ⟨rfl, A82, c83, A10, c11, fr.sub ⟨rfl, rfl, rfl, rfl, rfl, rfl, rfl, rfl, rfl, rfl, rfl, rfl, rfl, rfl, rfl, rfl, rfl, rfl, rfl, rfl, rfl, rfl, rfl, rfl, rfl, rfl, rfl, rfl, rfl, rfl, rfl, rfl, rfl, rfl, rfl, rfl, rfl, rfl, rfl, rfl, rfl, rfl, rfl, trivial⟩, S⟩
            · intro a w hS hI
              obtain ⟨A18, c19, A16, c17, fr, S⟩ := hI
              have S : Sat w0 _ [ownA .u32 23 A16 c17 (([] : List Int) ++ (List.drop (Int.toNat y6) l0)), ownA .u32 23 A18 c19 [(List.getD l0 (Int.toNat y6) 0)]] := S.frontAt 1 rfl
              have hy := (Rk.at (Rk.take rk0 (Int.toNat y6)) S)
              refine sl_app lit22 fr rfl rfl rfl rfl rfl rfl rfl rfl rfl hy hc_5 S ?_
              intro w A84 c85 S
              refine ⟨(Sat.mask S [false, false]), fun a fr => ?_⟩
              refine sl_end ?_
              have S : Sat w0 _ [ownA .u32 23 A18 c19 [(List.getD l0 (Int.toNat y6) 0)], ownA .u32 23 A84 c85 ((([] : List Int) ++ (List.drop (Int.toNat y6) l0)) ++ (List.take (Int.toNat y6) l0))] := S.frontAt 1 rfl
              exact ⟨rfl, A18, c19, A84, c85, fr.sub ⟨rfl, rfl, rfl, rfl, rfl, rfl, rfl, rfl, rfl, rfl, rfl, rfl, rfl, rfl, rfl, rfl, rfl, rfl, rfl, rfl, rfl, rfl, rfl, rfl, rfl, rfl, rfl, rfl, rfl, rfl, rfl, rfl, rfl, rfl, rfl, rfl, rfl, rfl, rfl, rfl, rfl, rfl, rfl, trivial⟩, S⟩
            · intro a w hS hI
              obtain ⟨A12, c13, A10, c11, fr, S⟩ := hI
              obtain ⟨hc, h⟩ := ifs h
              have S : Sat w0 _ [ownA .u32 23 A10 c11 ((([] : List Int) ++ (List.drop (Int.toNat y6) l0)) ++ (List.take (Int.toNat y6) l0)), ownA .u32 23 A12 c13 [(List.getD l0 (Int.toNat y6) 0)]] := S.frontAt 1 rfl
              have hy := (Sat.ownAt S 1 rfl)
              refine sl_app lit22 fr rfl rfl rfl rfl rfl rfl rfl rfl rfl hy hc S ?_
              intro w A26 c27 S
              have S : Sat w0 _ [ownA .u32 23 A26 c27 (((([] : List Int) ++ (List.drop (Int.toNat y6) l0)) ++ (List.take (Int.toNat y6) l0)) ++ [(List.getD l0 (Int.toNat y6) 0)])] := S.mask [true, false]
              refine ⟨(Sat.mask S [false]), fun a fr => ?_⟩
              refine sl_run orc_ok 1 rfl fr fun a fr => ?_
              refine sl_end ?_
              refine then_n ?_
              refine wp_seq ?_
              obtain ⟨hc_1, h⟩ := ifs h
              obtain ⟨hc_2, h⟩ := ifs h
              obtain ⟨hc_3, h⟩ := ifs h
              obtain ⟨hc_4, h⟩ := ifs h
              obtain ⟨hc_5, h⟩ := ifs h
              refine wp_region_pool (fun n => match n with | 0 => fun a w => Fr 112 a [(0, (.slice A0 (List.length l0) c0)), (1, (.slice A1 (List.length l1) c1)), (2, (.int .u8 a2)), (6, (.bool false)), (7, (.int .i64 y6)), (8, (.slice A26 (List.length (((([] : List Int) ++ (List.drop (Int.toNat y6) l0)) ++ (List.take (Int.toNat y6) l0)) ++ [(List.getD l0 (Int.toNat y6) 0)])) c27)), (9, (.slice none 0 0)), (16, (.bool r1)), (17, (.bool (!r1))), (18, (.bool false)), (19, (.slice A0 (List.length l0) c0)), (20, (.int .i64 (List.length l0 : Int))), (21, (.bool (decide ((List.length l0 : Int) > (30 : Int))))), (22, (.bool (decide ((List.length l0 : Int) > (30 : Int))))), (23, (.bool false)), (24, (.slice A0 (List.length l0) c0)), (25, (.int .i64 (List.length l0 : Int))), (26, (.slice A1 (List.length l1) c1)), (27, (.int .i64 (List.length l1 : Int))), (28, (.bool ((List.length l0 : Int) != (List.length l1 : Int)))), (29, (.bool ((List.length l0 : Int) != (List.length l1 : Int)))), (30, (.bool false)), (31, (.slice A0 (List.length l0) c0)), (32, (.int .i64 (List.length l0 : Int))), (33, (.bool ((List.length l0 : Int) == (0 : Int)))), (34, (.bool ((List.length l0 : Int) == (0 : Int)))), (36, (.int .u8 a2)), (37, (.int .i64 (IntKind.wrap .i64 a2))), (38, (.slice A0 (List.length l0) c0)), (39, (.int .i64 (List.length l0 : Int))), (40, (.int .i64 (Int.tmod (IntKind.wrap .i64 a2) (List.length l0 : Int)))), (41, (.slice none 0 0)), (42, (.slice A0 (List.length l0) c0)), (43, (.int .i64 y6)), (44, (.slice (dropA A0 c0 (Int.toNat y6)) (List.length (List.drop (Int.toNat y6) l0)) (c0 - Int.toNat y6))), (46, (.slice A0 (List.length l0) c0)), (47, (.int .i64 y6)), (48, (.slice A0 (List.length (List.take (Int.toNat y6) l0)) c0)), (50, (.slice A0 (List.length l0) c0)), (51, (.int .i64 y6)), (53, (.int .u32 (List.getD l0 (Int.toNat y6) 0))), (55, (.slice A26 (List.length (((([] : List Int) ++ (List.drop (Int.toNat y6) l0)) ++ (List.take (Int.toNat y6) l0)) ++ [(List.getD l0 (Int.toNat y6) 0)])) c27)), (56, (.slice none 0 0)), (57, (.slice A1 (List.length l1) c1)), (58, (.int .i64 y6)), (59, (.slice (dropA A1 c1 (Int.toNat y6)) (List.length (List.drop (Int.toNat y6) l1)) (c1 - Int.toNat y6))), (61, (.slice A1 (List.length l1) c1)), (62, (.int .i64 y6)), (63, (.slice A1 (List.length (List.take (Int.toNat y6) l1)) c1)), (65, (.slice A1 (List.length l1) c1)), (66, (.int .i64 y6)), (68, (.int .u32 (List.getD l1 (Int.toNat y6) 0)))] ∧ Sat w0 w [ownA .u32 23 A26 c27 (((([] : List Int) ++ (List.drop (Int.toNat y6) l0)) ++ (List.take (Int.toNat y6) l0)) ++ [(List.getD l0 (Int.toNat y6) 0)])] | 1 => fun a w => ∃ A29 : Option Addr, ∃ c30 : Nat, Fr 112 a [(0, (.slice A0 (List.length l0) c0)), (1, (.slice A1 (List.length l1) c1)), (2, (.int .u8 a2)), (6, (.bool false)), (7, (.int .i64 y6)), (8, (.slice A26 (List.length (((([] : List Int) ++ (List.drop (Int.toNat y6) l0)) ++ (List.take (Int.toNat y6) l0)) ++ [(List.getD l0 (Int.toNat y6) 0)])) c27)), (9, (.slice none 0 0)), (16, (.bool r1)), (17, (.bool (!r1))), (18, (.bool false)), (19, (.slice A0 (List.length l0) c0)), (20, (.int .i64 (List.length l0 : Int))), (21, (.bool (decide ((List.length l0 : Int) > (30 : Int))))), (22, (.bool (decide ((List.length l0 : Int) > (30 : Int))))), (23, (.bool false)), (24, (.slice A0 (List.length l0) c0)), (25, (.int .i64 (List.length l0 : Int))), (26, (.slice A1 (List.length l1) c1)), (27, (.int .i64 (List.length l1 : Int))), (28, (.bool ((List.length l0 : Int) != (List.length l1 : Int)))), (29, (.bool ((List.length l0 : Int) != (List.length l1 : Int)))), (30, (.bool false)), (31, (.slice A0 (List.length l0) c0)), (32, (.int .i64 (List.length l0 : Int))), (33, (.bool ((List.length l0 : Int) == (0 : Int)))), (34, (.bool ((List.length l0 : Int) == (0 : Int)))), (36, (.int .u8 a2)), (37, (.int .i64 (IntKind.wrap .i64 a2))), (38, (.slice A0 (List.length l0) c0)), (39, (.int .i64 (List.length l0 : Int))), (40, (.int .i64 (Int.tmod (IntKind.wrap .i64 a2) (List.length l0 : Int)))), (41, (.slice none 0 0)), (42, (.slice A0 (List.length l0) c0)), (43, (.int .i64 y6)), (44, (.slice (dropA A0 c0 (Int.toNat y6)) (List.length (List.drop (Int.toNat y6) l0)) (c0 - Int.toNat y6))), (46, (.slice A0 (List.length l0) c0)), (47, (.int .i64 y6)), (48, (.slice A0 (List.length (List.take (Int.toNat y6) l0)) c0)), (50, (.slice A0 (List.length l0) c0)), (51, (.int .i64 y6)), (53, (.int .u32 (List.getD l0 (Int.toNat y6) 0))), (55, (.slice A26 (List.length (((([] : List Int) ++ (List.drop (Int.toNat y6) l0)) ++ (List.take (Int.toNat y6) l0)) ++ [(List.getD l0 (Int.toNat y6) 0)])) c27)), (56, (.slice none 0 0)), (57, (.slice A1 (List.length l1) c1)), (58, (.int .i64 y6)), (59, (.slice (dropA A1 c1 (Int.toNat y6)) (List.length (List.drop (Int.toNat y6) l1)) (c1 - Int.toNat y6))), (60, (.slice A29 (List.length (([] : List Int) ++ (List.drop (Int.toNat y6) l1))) c30)), (61, (.slice A1 (List.length l1) c1)), (62, (.int .i64 y6)), (63, (.slice A1 (List.length (List.take (Int.toNat y6) l1)) c1)), (65, (.slice A1 (List.length l1) c1)), (66, (.int .i64 y6)), (68, (.int .u32 (List.getD l1 (Int.toNat y6) 0)))] ∧ Sat w0 w [ownA .u32 23 A29 c30 (([] : List Int) ++ (List.drop (Int.toNat y6) l1)), ownA .u32 23 A26 c27 (((([] : List Int) ++ (List.drop (Int.toNat y6) l0)) ++ (List.take (Int.toNat y6) l0)) ++ [(List.getD l0 (Int.toNat y6) 0)])] | 2 => fun a w => ∃ A35 : Option Addr, ∃ c36 : Nat, Fr 112 a [(0, (.slice A0 (List.length l0) c0)), (1, (.slice A1 (List.length l1) c1)), (2, (.int .u8 a2)), (6, (.bool false)), (7, (.int .i64 y6)), (8, (.slice A26 (List.length (((([] : List Int) ++ (List.drop (Int.toNat y6) l0)) ++ (List.take (Int.toNat y6) l0)) ++ [(List.getD l0 (Int.toNat y6) 0)])) c27)), (9, (.slice none 0 0)), (16, (.bool r1)), (17, (.bool (!r1))), (18, (.bool false)), (19, (.slice A0 (List.length l0) c0)), (20, (.int .i64 (List.length l0 : Int))), (21, (.bool (decide ((List.length l0 : Int) > (30 : Int))))), (22, (.bool (decide ((List.length l0 : Int) > (30 : Int))))), (23, (.bool false)), (24, (.slice A0 (List.length l0) c0)), (25, (.int .i64 (List.length l0 : Int))), (26, (.slice A1 (List.length l1) c1)), (27, (.int .i64 (List.length l1 : Int))), (28, (.bool ((List.length l0 : Int) != (List.length l1 : Int)))), (29, (.bool ((List.length l0 : Int) != (List.length l1 : Int)))), (30, (.bool false)), (31, (.slice A0 (List.length l0) c0)), (32, (.int .i64 (List.length l0 : Int))), (33, (.bool ((List.length l0 : Int) == (0 : Int)))), (34, (.bool ((List.length l0 : Int) == (0 : Int)))), (36, (.int .u8 a2)), (37, (.int .i64 (IntKind.wrap .i64 a2))), (38, (.slice A0 (List.length l0) c0)), (39, (.int .i64 (List.length l0 : Int))), (40, (.int .i64 (Int.tmod (IntKind.wrap .i64 a2) (List.length l0 : Int)))), (41, (.slice none 0 0)), (42, (.slice A0 (List.length l0) c0)), (43, (.int .i64 y6)), (44, (.slice (dropA A0 c0 (Int.toNat y6)) (List.length (List.drop (Int.toNat y6) l0)) (c0 - Int.toNat y6))), (46, (.slice A0 (List.length l0) c0)), (47, (.int .i64 y6)), (48, (.slice A0 (List.length (List.take (Int.toNat y6) l0)) c0)), (50, (.slice A0 (List.length l0) c0)), (51, (.int .i64 y6)), (53, (.int .u32 (List.getD l0 (Int.toNat y6) 0))), (55, (.slice A26 (List.length (((([] : List Int) ++ (List.drop (Int.toNat y6) l0)) ++ (List.take (Int.toNat y6) l0)) ++ [(List.getD l0 (Int.toNat y6) 0)])) c27)), (56, (.slice none 0 0)), (57, (.slice A1 (List.length l1) c1)), (58, (.int .i64 y6)), (59, (.slice (dropA A1 c1 (Int.toNat y6)) (List.length (List.drop (Int.toNat y6) l1)) (c1 - Int.toNat y6))), (61, (.slice A1 (List.length l1) c1)), (62, (.int .i64 y6)), (63, (.slice A1 (List.length (List.take (Int.toNat y6) l1)) c1)), (65, (.slice A1 (List.length l1) c1)), (66, (.int .i64 y6)), (68, (.int .u32 (List.getD l1 (Int.toNat y6) 0))), (69, (.slice A35 (List.length [(List.getD l1 (Int.toNat y6) 0)]) c36))] ∧ Sat w0 w [ownA .u32 23 A35 c36 [(List.getD l1 (Int.toNat y6) 0)], ownA .u32 23 A26 c27 (((([] : List Int) ++ (List.drop (Int.toNat y6) l0)) ++ (List.take (Int.toNat y6) l0)) ++ [(List.getD l0 (Int.toNat y6) 0)])] | 3 => fun a w => ∃ A31 : Option Addr, ∃ c32 : Nat, Fr 112 a [(0, (.slice A0 (List.length l0) c0)), (1, (.slice A1 (List.length l1) c1)), (2, (.int .u8 a2)), (6, (.bool false)), (7, (.int .i64 y6)), (8, (.slice A26 (List.length (((([] : List Int) ++ (List.drop (Int.toNat y6) l0)) ++ (List.take (Int.toNat y6) l0)) ++ [(List.getD l0 (Int.toNat y6) 0)])) c27)), (9, (.slice none 0 0)), (16, (.bool r1)), (17, (.bool (!r1))), (18, (.bool false)), (19, (.slice A0 (List.length l0) c0)), (20, (.int .i64 (List.length l0 : Int))), (21, (.bool (decide ((List.length l0 : Int) > (30 : Int))))), (22, (.bool (decide ((List.length l0 : Int) > (30 : Int))))), (23, (.bool false)), (24, (.slice A0 (List.length l0) c0)), (25, (.int .i64 (List.length l0 : Int))), (26, (.slice A1 (List.length l1) c1)), (27, (.int .i64 (List.length l1 : Int))), (28, (.bool ((List.length l0 : Int) != (List.length l1 : Int)))), (29, (.bool ((List.length l0 : Int) != (List.length l1 : Int)))), (30, (.bool false)), (31, (.slice A0 (List.length l0) c0)), (32, (.int .i64 (List.length l0 : Int))), (33, (.bool ((List.length l0 : Int) == (0 : Int)))), (34, (.bool ((List.length l0 : Int) == (0 : Int)))), (36, (.int .u8 a2)), (37, (.int .i64 (IntKind.wrap .i64 a2))), (38, (.slice A0 (List.length l0) c0)), (39, (.int .i64 (List.length l0 : Int))), (40, (.int .i64 (Int.tmod (IntKind.wrap .i64 a2) (List.length l0 : Int)))), (41, (.slice none 0 0)), (42, (.slice A0 (List.length l0) c0)), (43, (.int .i64 y6)), (44, (.slice (dropA A0 c0 (Int.toNat y6)) (List.length (List.drop (Int.toNat y6) l0)) (c0 - Int.toNat y6))), (46, (.slice A0 (List.length l0) c0)), (47, (.int .i64 y6)), (48, (.slice A0 (List.length (List.take (Int.toNat y6) l0)) c0)), (50, (.slice A0 (List.length l0) c0)), (51, (.int .i64 y6)), (53, (.int .u32 (List.getD l0 (Int.toNat y6) 0))), (55, (.slice A26 (List.length (((([] : List Int) ++ (List.drop (Int.toNat y6) l0)) ++ (List.take (Int.toNat y6) l0)) ++ [(List.getD l0 (Int.toNat y6) 0)])) c27)), (56, (.slice none 0 0)), (57, (.slice A1 (List.length l1) c1)), (58, (.int .i64 y6)), (59, (.slice (dropA A1 c1 (Int.toNat y6)) (List.length (List.drop (Int.toNat y6) l1)) (c1 - Int.toNat y6))), (61, (.slice A1 (List.length l1) c1)), (62, (.int .i64 y6)), (63, (.slice A1 (List.length (List.take (Int.toNat y6) l1)) c1)), (64, (.slice A31 (List.length ((([] : List Int) ++ (List.drop (Int.toNat y6) l1)) ++ (List.take (Int.toNat y6) l1))) c32)), (65, (.slice A1 (List.length l1) c1)), (66, (.int .i64 y6)), (68, (.int .u32 (List.getD l1 (Int.toNat y6) 0)))] ∧ Sat w0 w [ownA .u32 23 A31 c32 ((([] : List Int) ++ (List.drop (Int.toNat y6) l1)) ++ (List.take (Int.toNat y6) l1)), ownA .u32 23 A26 c27 (((([] : List Int) ++ (List.drop (Int.toNat y6) l0)) ++ (List.take (Int.toNat y6) l0)) ++ [(List.getD l0 (Int.toNat y6) 0)])] | 4 => fun a w => ∃ A39 : Option Addr, ∃ c40 : Nat, ∃ A37 : Option Addr, ∃ c38 : Nat, Fr 112 a [(0, (.slice A0 (List.length l0) c0)), (1, (.slice A1 (List.length l1) c1)), (2, (.int .u8 a2)), (6, (.bool false)), (7, (.int .i64 y6)), (8, (.slice A26 (List.length (((([] : List Int) ++ (List.drop (Int.toNat y6) l0)) ++ (List.take (Int.toNat y6) l0)) ++ [(List.getD l0 (Int.toNat y6) 0)])) c27)), (9, (.slice none 0 0)), (16, (.bool r1)), (17, (.bool (!r1))), (18, (.bool false)), (19, (.slice A0 (List.length l0) c0)), (20, (.int .i64 (List.length l0 : Int))), (21, (.bool (decide ((List.length l0 : Int) > (30 : Int))))), (22, (.bool (decide ((List.length l0 : Int) > (30 : Int))))), (23, (.bool false)), (24, (.slice A0 (List.length l0) c0)), (25, (.int .i64 (List.length l0 : Int))), (26, (.slice A1 (List.length l1) c1)), (27, (.int .i64 (List.length l1 : Int))), (28, (.bool ((List.length l0 : Int) != (List.length l1 : Int)))), (29, (.bool ((List.length l0 : Int) != (List.length l1 : Int)))), (30, (.bool false)), (31, (.slice A0 (List.length l0) c0)), (32, (.int .i64 (List.length l0 : Int))), (33, (.bool ((List.length l0 : Int) == (0 : Int)))), (34, (.bool ((List.length l0 : Int) == (0 : Int)))), (36, (.int .u8 a2)), (37, (.int .i64 (IntKind.wrap .i64 a2))), (38, (.slice A0 (List.length l0) c0)), (39, (.int .i64 (List.length l0 : Int))), (40, (.int .i64 (Int.tmod (IntKind.wrap .i64 a2) (List.length l0 : Int)))), (41, (.slice none 0 0)), (42, (.slice A0 (List.length l0) c0)), (43, (.int .i64 y6)), (44, (.slice (dropA A0 c0 (Int.toNat y6)) (List.length (List.drop (Int.toNat y6) l0)) (c0 - Int.toNat y6))), (46, (.slice A0 (List.length l0) c0)), (47, (.int .i64 y6)), (48, (.slice A0 (List.length (List.take (Int.toNat y6) l0)) c0)), (50, (.slice A0 (List.length l0) c0)), (51, (.int .i64 y6)), (53, (.int .u32 (List.getD l0 (Int.toNat y6) 0))), (55, (.slice A26 (List.length (((([] : List Int) ++ (List.drop (Int.toNat y6) l0)) ++ (List.take (Int.toNat y6) l0)) ++ [(List.getD l0 (Int.toNat y6) 0)])) c27)), (56, (.slice none 0 0)), (57, (.slice A1 (List.length l1) c1)), (58, (.int .i64 y6)), (59, (.slice (dropA A1 c1 (Int.toNat y6)) (List.length (List.drop (Int.toNat y6) l1)) (c1 - Int.toNat y6))), (60, (.slice A37 (List.length (([] : List Int) ++ (List.drop (Int.toNat y6) l1))) c38)), (61, (.slice A1 (List.length l1) c1)), (62, (.int .i64 y6)), (63, (.slice A1 (List.length (List.take (Int.toNat y6) l1)) c1)), (65, (.slice A1 (List.length l1) c1)), (66, (.int .i64 y6)), (68, (.int .u32 (List.getD l1 (Int.toNat y6) 0))), (69, (.slice A39 (List.length [(List.getD l1 (Int.toNat y6) 0)]) c40))] ∧ Sat w0 w [ownA .u32 23 A39 c40 [(List.getD l1 (Int.toNat y6) 0)], ownA .u32 23 A37 c38 (([] : List Int) ++ (List.drop (Int.toNat y6) l1)), ownA .u32 23 A26 c27 (((([] : List Int) ++ (List.drop (Int.toNat y6) l0)) ++ (List.take (Int.toNat y6) l0)) ++ [(List.getD l0 (Int.toNat y6) 0)])] | 5 => fun a w => ∃ A33 : Option Addr, ∃ c34 : Nat, ∃ A31 : Option Addr, ∃ c32 : Nat, Fr 112 a [(0, (.slice A0 (List.length l0) c0)), (1, (.slice A1 (List.length l1) c1)), (2, (.int .u8 a2)), (6, (.bool false)), (7, (.int .i64 y6)), (8, (.slice A26 (List.length (((([] : List Int) ++ (List.drop (Int.toNat y6) l0)) ++ (List.take (Int.toNat y6) l0)) ++ [(List.getD l0 (Int.toNat y6) 0)])) c27)), (9, (.slice none 0 0)), (16, (.bool r1)), (17, (.bool (!r1))), (18, (.bool false)), (19, (.slice A0 (List.length l0) c0)), (20, (.int .i64 (List.length l0 : Int))), (21, (.bool (decide ((List.length l0 : Int) > (30 : Int))))), (22, (.bool (decide ((List.length l0 : Int) > (30 : Int))))), (23, (.bool false)), (24, (.slice A0 (List.length l0) c0)), (25, (.int .i64 (List.length l0 : Int))), (26, (.slice A1 (List.length l1) c1)), (27, (.int .i64 (List.length l1 : Int))), (28, (.bool ((List.length l0 : Int) != (List.length l1 : Int)))), (29, (.bool ((List.length l0 : Int) != (List.length l1 : Int)))), (30, (.bool false)), (31, (.slice A0 (List.length l0) c0)), (32, (.int .i64 (List.length l0 : Int))), (33, (.bool ((List.length l0 : Int) == (0 : Int)))), (34, (.bool ((List.length l0 : Int) == (0 : Int)))), (36, (.int .u8 a2)), (37, (.int .i64 (IntKind.wrap .i64 a2))), (38, (.slice A0 (List.length l0) c0)), (39, (.int .i64 (List.length l0 : Int))), (40, (.int .i64 (Int.tmod (IntKind.wrap .i64 a2) (List.length l0 : Int)))), (41, (.slice none 0 0)), (42, (.slice A0 (List.length l0) c0)), (43, (.int .i64 y6)), (44, (.slice (dropA A0 c0 (Int.toNat y6)) (List.length (List.drop (Int.toNat y6) l0)) (c0 - Int.toNat y6))), (46, (.slice A0 (List.length l0) c0)), (47, (.int .i64 y6)), (48, (.slice A0 (List.length (List.take (Int.toNat y6) l0)) c0)), (50, (.slice A0 (List.length l0) c0)), (51, (.int .i64 y6)), (53, (.int .u32 (List.getD l0 (Int.toNat y6) 0))), (55, (.slice A26 (List.length (((([] : List Int) ++ (List.drop (Int.toNat y6) l0)) ++ (List.take (Int.toNat y6) l0)) ++ [(List.getD l0 (Int.toNat y6) 0)])) c27)), (56, (.slice none 0 0)), (57, (.slice A1 (List.length l1) c1)), (58, (.int .i64 y6)), (59, (.slice (dropA A1 c1 (Int.toNat y6)) (List.length (List.drop (Int.toNat y6) l1)) (c1 - Int.toNat y6))), (61, (.slice A1 (List.length l1) c1)), (62, (.int .i64 y6)), (63, (.slice A1 (List.length (List.take (Int.toNat y6) l1)) c1)), (64, (.slice A31 (List.length ((([] : List Int) ++ (List.drop (Int.toNat y6) l1)) ++ (List.take (Int.toNat y6) l1))) c32)), (65, (.slice A1 (List.length l1) c1)), (66, (.int .i64 y6)), (68, (.int .u32 (List.getD l1 (Int.toNat y6) 0))), (69, (.slice A33 (List.length [(List.getD l1 (Int.toNat y6) 0)]) c34))] ∧ Sat w0 w [ownA .u32 23 A33 c34 [(List.getD l1 (Int.toNat y6) 0)], ownA .u32 23 A31 c32 ((([] : List Int) ++ (List.drop (Int.toNat y6) l1)) ++ (List.take (Int.toNat y6) l1)), ownA .u32 23 A26 c27 (((([] : List Int) ++ (List.drop (Int.toNat y6) l0)) ++ (List.take (Int.toNat y6) l0)) ++ [(List.getD l0 (Int.toNat y6) 0)])] | _ => fun _ _ => False) [.one (0, true, some 56), .one (1, true, some 57), .one (2, true, some 58), .one (3, true, some 59), .one (5, true, some 61), .one (6, true, some 62), .one (7, true, some 63), .one (9, true, some 65), .one (10, true, some 66), .one (11, true, some 67), .one (12, true, some 68)]
                [.one ⟨true, some 56, (Go.Op.move (Go.Operand.tmp 9)), 22, none⟩,
    .one ⟨true, some 57, (Go.Op.move (Go.Operand.tmp 1)), 22, none⟩,
    .one ⟨true, some 58, (Go.Op.move (Go.Operand.tmp 7)), 3, none⟩,
    .one ⟨true, some 59, (Go.Op.slice 22 (Go.Operand.tmp 57) (some (Go.Operand.tmp 58)) none none), 22, none⟩,
    .one ⟨true, some 61, (Go.Op.move (Go.Operand.tmp 1)), 22, none⟩,
    .one ⟨true, some 62, (Go.Op.move (Go.Operand.tmp 7)), 3, none⟩,
    .one ⟨true, some 63, (Go.Op.slice 22 (Go.Operand.tmp 61) none (some (Go.Operand.tmp 62)) none), 22, none⟩,
    .one ⟨true, some 65, (Go.Op.move (Go.Operand.tmp 1)), 22, none⟩,
    .one ⟨true, some 66, (Go.Op.move (Go.Operand.tmp 7)), 3, none⟩,
    .one ⟨true, some 67, (Go.Op.indexAddr 22 (Go.Operand.tmp 65) (Go.Operand.tmp 66)), 0, none⟩,
    .one ⟨true, some 68, (Go.Op.load 23 (Go.Operand.tmp 67)), 23, none⟩]
                [⟨0, #[true, true, true, true, false, true, true, true, false, true, true, true, true, false, false, false], [(4, some 60, 1), (13, some 69, 2)]⟩, ⟨1, #[true, true, true, true, true, true, true, true, false, true, true, true, true, false, false, false], [(8, some 64, 3), (13, some 69, 4)]⟩, ⟨2, #[true, true, true, true, false, true, true, true, false, true, true, true, true, true, false, false], [(4, some 60, 4)]⟩, ⟨3, #[true, true, true, true, true, true, true, true, true, true, true, true, true, false, false, false], [(13, some 69, 5)]⟩, ⟨4, #[true, true, true, true, true, true, true, true, false, true, true, true, true, true, false, false], [(8, some 64, 5)]⟩]
                ⟨0, #[true, true, true, true, false, true, true, true, false, true, true, true, true, false, false, false], [(4, some 60, 1), (13, some 69, 2)]⟩
                [(0, [(⟨false, some 60, (Go.Op.call { callee := (Go.Callee.builtin Go.Builtin.append), args := #[(Go.Operand.tmp 56), (Go.Operand.tmp 59)], argTypes := #[22, 22] }), 22, none⟩, 1), (⟨false, some 69, (Go.Op.buildSlice 22 1 #[(0, (Go.Operand.tmp 68))]), 22, none⟩, 2)]), (1, [(⟨false, some 64, (Go.Op.call { callee := (Go.Callee.builtin Go.Builtin.append), args := #[(Go.Operand.tmp 60), (Go.Operand.tmp 63)], argTypes := #[22, 22] }), 22, none⟩, 3), (⟨false, some 69, (Go.Op.buildSlice 22 1 #[(0, (Go.Operand.tmp 68))]), 22, none⟩, 4)]), (2, [(⟨false, some 60, (Go.Op.call { callee := (Go.Callee.builtin Go.Builtin.append), args := #[(Go.Operand.tmp 56), (Go.Operand.tmp 59)], argTypes := #[22, 22] }), 22, none⟩, 4)]), (3, [(⟨false, some 69, (Go.Op.buildSlice 22 1 #[(0, (Go.Operand.tmp 68))]), 22, none⟩, 5)]), (4, [(⟨false, some 64, (Go.Op.call { callee := (Go.Callee.builtin Go.Builtin.append), args := #[(Go.Operand.tmp 60), (Go.Operand.tmp 63)], argTypes := #[22, 22] }), 22, none⟩, 5)])]
                #[true, true, true, true, true, true, true, true, true, true, true, true, true, true, false, false] 5 [.one (14, false, some 70), .one (15, true, some 9)]
                [.one ⟨false, some 70, (Go.Op.call { callee := (Go.Callee.builtin Go.Builtin.append), args := #[(Go.Operand.tmp 64), (Go.Operand.tmp 69)], argTypes := #[22, 22] }), 22, none⟩,
    .one ⟨true, some 9, (Go.Op.assign (Go.Operand.tmp 70)), 22, none⟩]
                (fun w => Sat w0 w [ownA .u32 23 A26 c27 (((([] : List Int) ++ (List.drop (Int.toNat y6) l0)) ++ (List.take (Int.toNat y6) l0)) ++ [(List.getD l0 (Int.toNat y6) 0)])]) rfl (by kernel_rfl) (List.mem_cons_self) (by kernel_rfl) (by kernel_rfl) (by kernel_rfl) (by kernel_rfl) (S.drew.mask [true]) ?_ ⟨⟨?_, ?_, trivial⟩, ⟨?_, ?_, trivial⟩, ⟨?_, trivial⟩, ⟨?_, trivial⟩, ⟨?_, trivial⟩, trivial⟩ ?_
              · have S := S.drew
                refine sl_run orc_ok 3 rfl fr fun a fr => ?_
                refine sl_dropq orc_ok fr rfl rfl rfl rfl rfl rfl rfl rfl info23 rfl hc_1 fun a fr => ?_
                refine sl_run orc_ok 2 rfl fr fun a fr => ?_
                refine sl_takeq orc_ok fr rfl rfl rfl rfl rfl rfl rfl rfl rfl rfl hc_2 fun a fr => ?_
                refine sl_run orc_ok 2 rfl fr fun a fr => ?_
                refine sl_ld orc_ok (fun _ S => Rk.at rk1 S) fr rfl rfl rfl rfl rfl rfl rfl rfl rfl rfl rfl rfl rfl rfl rfl rfl rfl rfl hc_3 (Sat.mask S [true]) fun a fr => ?_
                refine sl_end ?_
                exact ⟨rfl, fr.sub ⟨rfl, rfl, rfl, rfl, rfl, rfl, rfl, rfl, rfl, rfl, rfl, rfl, rfl, rfl, rfl, rfl, rfl, rfl, rfl, rfl, rfl, rfl, rfl, rfl, rfl, rfl, rfl, rfl, rfl, rfl, rfl, rfl, rfl, rfl, rfl, rfl, rfl, rfl, rfl, rfl, rfl, rfl, rfl, rfl, rfl, rfl, rfl, rfl, rfl, rfl, rfl, rfl, trivial⟩, S⟩
              · intro a w hS hI
                obtain ⟨fr, S⟩ := hI
                have S : Sat w0 _ [ownA .u32 23 none 0 ([] : List Int), ownA .u32 23 A26 c27 (((([] : List Int) ++ (List.drop (Int.toNat y6) l0)) ++ (List.take (Int.toNat y6) l0)) ++ [(List.getD l0 (Int.toNat y6) 0)])] := S.nilRow .u32 23
                have hy := (Rk.at (Rk.drop (n := Int.toNat y6) rk1 m1.1) S)
                refine sl_app lit22 fr rfl rfl rfl rfl rfl rfl rfl rfl rfl hy hc_4 S ?_
                intro w A58 c59 S
                refine ⟨(Sat.mask S [false, true]), fun a fr => ?_⟩
                refine sl_end ?_
                exact ⟨rfl, A58, c59, fr.sub ⟨rfl, rfl, rfl, rfl, rfl, rfl, rfl, rfl, rfl, rfl, rfl, rfl, rfl, rfl, rfl, rfl, rfl, rfl, rfl, rfl, rfl, rfl, rfl, rfl, rfl, rfl, rfl, rfl, rfl, rfl, rfl, rfl, rfl, rfl, rfl, rfl, rfl, rfl, rfl, rfl, rfl, rfl, rfl, rfl, rfl, rfl, rfl, rfl, rfl, rfl, rfl, rfl, rfl, trivial⟩, S⟩
              · intro a w hS hI
                obtain ⟨fr, S⟩ := hI
                refine sl_lit (xs := [(List.getD l1 (Int.toNat y6) 0)]) orc_ok lit22 fr rfl rfl rfl rfl rfl ⟨rfl, rfl, trivial⟩ rfl rfl S ?_
                intro w A60 c61 S
                refine ⟨(Sat.mask S [false, true]), fun a fr => ?_⟩
                refine sl_end ?_
                exact ⟨rfl, A60, c61, fr.sub ⟨rfl, rfl, rfl, rfl, rfl, rfl, rfl, rfl, rfl, rfl, rfl, rfl, rfl, rfl, rfl, rfl, rfl, rfl, rfl, rfl, rfl, rfl, rfl, rfl, rfl, rfl, rfl, rfl, rfl, rfl, rfl, rfl, rfl, rfl, rfl, rfl, rfl, rfl, rfl, rfl, rfl, rfl, rfl, rfl, rfl, rfl, rfl, rfl, rfl, rfl, rfl, rfl, rfl, trivial⟩, S⟩
              · intro a w hS hI
                obtain ⟨A29, c30, fr, S⟩ := hI
                have hy := (Rk.at (Rk.take rk1 (Int.toNat y6)) S)
                refine sl_app lit22 fr rfl rfl rfl rfl rfl rfl rfl rfl rfl hy hc_5 S ?_
                intro w A62 c63 S
                refine ⟨(Sat.mask S [false, true]), fun a fr => ?_⟩
                refine sl_end ?_
                exact ⟨rfl, A62, c63, fr.sub ⟨rfl, rfl, rfl, rfl, rfl, rfl, rfl, rfl, rfl, rfl, rfl, rfl, rfl, rfl, rfl, rfl, rfl, rfl, rfl, rfl, rfl, rfl, rfl, rfl, rfl, rfl, rfl, rfl, rfl, rfl, rfl, rfl, rfl, rfl, rfl, rfl, rfl, rfl, rfl, rfl, rfl, rfl, rfl, rfl, rfl, rfl, rfl, rfl, rfl, rfl, rfl, rfl, rfl, trivial⟩, S⟩
              · intro a w hS hI
                obtain ⟨A29, c30, fr, S⟩ := hI
                refine sl_lit (xs := [(List.getD l1 (Int.toNat y6) 0)]) orc_ok lit22 fr rfl rfl rfl rfl rfl ⟨rfl, rfl, trivial⟩ rfl rfl S ?_
                intro w A64 c65 S
                refine ⟨(Sat.mask S [false, false, true]), fun a fr => ?_⟩
                refine sl_end ?_
                exact ⟨rfl, A64, c65, A29, c30, fr.sub ⟨rfl, rfl, rfl, rfl, rfl, rfl, rfl, rfl, rfl, rfl, rfl, rfl, rfl, rfl, rfl, rfl, rfl, rfl, rfl, rfl, rfl, rfl, rfl, rfl, rfl, rfl, rfl, rfl, rfl, rfl, rfl, rfl, rfl, rfl, rfl, rfl, rfl, rfl, rfl, rfl, rfl, rfl, rfl, rfl, rfl, rfl, rfl, rfl, rfl, rfl, rfl, rfl, rfl, rfl, trivial⟩, S⟩
              · intro a w hS hI
                obtain ⟨A35, c36, fr, S⟩ := hI
                have S : Sat w0 _ [ownA .u32 23 none 0 ([] : List Int), ownA .u32 23 A35 c36 [(List.getD l1 (Int.toNat y6) 0)], ownA .u32 23 A26 c27 (((([] : List Int) ++ (List.drop (Int.toNat y6) l0)) ++ (List.take (Int.toNat y6) l0)) ++ [(List.getD l0 (Int.toNat y6) 0)])] := S.nilRow .u32 23
                have hy := (Rk.at (Rk.drop (n := Int.toNat y6) rk1 m1.1) S)
                refine sl_app lit22 fr rfl rfl rfl rfl rfl rfl rfl rfl rfl hy hc_4 S ?_
                intro w A66 c67 S
                refine ⟨(Sat.mask S [false, false, true]), fun a fr => ?_⟩
                refine sl_end ?_
                have S : Sat w0 _ [ownA .u32 23 A26 c27 (((([] : List Int) ++ (List.drop (Int.toNat y6) l0)) ++ (List.take (Int.toNat y6) l0)) ++ [(List.getD l0 (Int.toNat y6) 0)]), ownA .u32 23 A66 c67 (([] : List Int) ++ (List.drop (Int.toNat y6) l1)), ownA .u32 23 A35 c36 [(List.getD l1 (Int.toNat y6) 0)]] := S.frontAt 2 rfl
                have S : Sat w0 _ [ownA .u32 23 A66 c67 (([] : List Int) ++ (List.drop (Int.toNat y6) l1)), ownA .u32 23 A26 c27 (((([] : List Int) ++ (List.drop (Int.toNat y6) l0)) ++ (List.take (Int.toNat y6) l0)) ++ [(List.getD l0 (Int.toNat y6) 0)]), ownA .u32 23 A35 c36 [(List.getD l1 (Int.toNat y6) 0)]] := S.frontAt 1 rfl
                have S : Sat w0 _ [ownA .u32 23 A35 c36 [(List.getD l1 (Int.toNat y6) 0)], ownA .u32 23 A66 c67 (([] : List Int) ++ (List.drop (Int.toNat y6) l1)), ownA .u32 23 A26 c27 (((([] : List Int) ++ (List.drop (Int.toNat y6) l0)) ++ (List.take (Int.toNat y6) l0)) ++ [(List.getD l0 (Int.toNat y6) 0)])] := S.frontAt 2 rfl
                exact ⟨rfl, A35, c36, A66, c67, fr.sub ⟨rfl, rfl, rfl, rfl, rfl, rfl, rfl, rfl, rfl, rfl, rfl, rfl, rfl, rfl, rfl, rfl, rfl, rfl, rfl, rfl, rfl, rfl, rfl, rfl, rfl, rfl, rfl, rfl, rfl, rfl, rfl, rfl, rfl, rfl, rfl, rfl, rfl, rfl, rfl, rfl, rfl, rfl, rfl, rfl, rfl, rfl, rfl, rfl, rfl, rfl, rfl, rfl, rfl, rfl, trivial⟩, S⟩
              · intro a w hS hI
                obtain ⟨A31, c32, fr, S⟩ := hI
                refine sl_lit (xs := [(List.getD l1 (Int.toNat y6) 0)]) orc_ok lit22 fr rfl rfl rfl rfl rfl ⟨rfl, rfl, trivial⟩ rfl rfl S ?_
                intro w A68 c69 S
                refine ⟨(Sat.mask S [false, false, true]), fun a fr => ?_⟩
                refine sl_end ?_
                exact ⟨rfl, A68, c69, A31, c32, fr.sub ⟨rfl, rfl, rfl, rfl, rfl, rfl, rfl, rfl, rfl, rfl, rfl, rfl, rfl, rfl, rfl, rfl, rfl, rfl, rfl, rfl, rfl, rfl, rfl, rfl, rfl, rfl, rfl, rfl, rfl, rfl, rfl, rfl, rfl, rfl, rfl, rfl, rfl, rfl, rfl, rfl, rfl, rfl, rfl, rfl, rfl, rfl, rfl, rfl, rfl, rfl, rfl, rfl, rfl, rfl, trivial⟩, S⟩
              · intro a w hS hI
                obtain ⟨A39, c40, A37, c38, fr, S⟩ := hI
                have S : Sat w0 _ [ownA .u32 23 A37 c38 (([] : List Int) ++ (List.drop (Int.toNat y6) l1)), ownA .u32 23 A39 c40 [(List.getD l1 (Int.toNat y6) 0)], ownA .u32 23 A26 c27 (((([] : List Int) ++ (List.drop (Int.toNat y6) l0)) ++ (List.take (Int.toNat y6) l0)) ++ [(List.getD l0 (Int.toNat y6) 0)])] := S.frontAt 1 rfl
                have hy := (Rk.at (Rk.take rk1 (Int.toNat y6)) S)
                refine sl_app lit22 fr rfl rfl rfl rfl rfl rfl rfl rfl rfl hy hc_5 S ?_
                intro w A70 c71 S
                refine ⟨(Sat.mask S [false, false, true]), fun a fr => ?_⟩
                refine sl_end ?_
                have S : Sat w0 _ [ownA .u32 23 A26 c27 (((([] : List Int) ++ (List.drop (Int.toNat y6) l0)) ++ (List.take (Int.toNat y6) l0)) ++ [(List.getD l0 (Int.toNat y6) 0)]), ownA .u32 23 A70 c71 ((([] : List Int) ++ (List.drop (Int.toNat y6) l1)) ++ (List.take (Int.toNat y6) l1)), ownA .u32 23 A39 c40 [(List.getD l1 (Int.toNat y6) 0)]] := S.frontAt 2 rfl
                have S : Sat w0 _ [ownA .u32 23 A70 c71 ((([] : List Int) ++ (List.drop (Int.toNat y6) l1)) ++ (List.take (Int.toNat y6) l1)), ownA .u32 23 A26 c27 (((([] : List Int) ++ (List.drop (Int.toNat y6) l0)) ++ (List.take (Int.toNat y6) l0)) ++ [(List.getD l0 (Int.toNat y6) 0)]), ownA .u32 23 A39 c40 [(List.getD l1 (Int.toNat y6) 0)]] := S.frontAt 1 rfl
                have S : Sat w0 _ [ownA .u32 23 A39 c40 [(List.getD l1 (Int.toNat y6) 0)], ownA .u32 23 A70 c71 ((([] : List Int) ++ (List.drop (Int.toNat y6) l1)) ++ (List.take (Int.toNat y6) l1)), ownA .u32 23 A26 c27 (((([] : List Int) ++ (List.drop (Int.toNat y6) l0)) ++ (List.take (Int.toNat y6) l0)) ++ [(List.getD l0 (Int.toNat y6) 0)])] := S.frontAt 2 rfl
                exact ⟨rfl, A39, c40, A70, c71, fr.sub ⟨rfl, rfl, rfl, rfl, rfl, rfl, rfl, rfl, rfl, rfl, rfl, rfl, rfl, rfl, rfl, rfl, rfl, rfl, rfl, rfl, rfl, rfl, rfl, rfl, rfl, rfl, rfl, rfl, rfl, rfl, rfl, rfl, rfl, rfl, rfl, rfl, rfl, rfl, rfl, rfl, rfl, rfl, rfl, rfl, rfl, rfl, rfl, rfl, rfl, rfl, rfl, rfl, rfl, rfl, trivial⟩, S⟩
              · intro a w hS hI
                obtain ⟨A33, c34, A31, c32, fr, S⟩ := hI
                obtain ⟨hc, h⟩ := ifs h
                have S : Sat w0 _ [ownA .u32 23 A31 c32 ((([] : List Int) ++ (List.drop (Int.toNat y6) l1)) ++ (List.take (Int.toNat y6) l1)), ownA .u32 23 A33 c34 [(List.getD l1 (Int.toNat y6) 0)], ownA .u32 23 A26 c27 (((([] : List Int) ++ (List.drop (Int.toNat y6) l0)) ++ (List.take (Int.toNat y6) l0)) ++ [(List.getD l0 (Int.toNat y6) 0)])] := S.frontAt 1 rfl
                have hy := (Sat.ownAt S 1 rfl)
                refine sl_app lit22 fr rfl rfl rfl rfl rfl rfl rfl rfl rfl hy hc S ?_
                intro w A47 c48 S
                have S : Sat w0 _ [ownA .u32 23 A47 c48 (((([] : List Int) ++ (List.drop (Int.toNat y6) l1)) ++ (List.take (Int.toNat y6) l1)) ++ [(List.getD l1 (Int.toNat y6) 0)]), ownA .u32 23 A26 c27 (((([] : List Int) ++ (List.drop (Int.toNat y6) l0)) ++ (List.take (Int.toNat y6) l0)) ++ [(List.getD l0 (Int.toNat y6) 0)])] := S.mask [true, false, true]
                refine ⟨(Sat.mask S [false, true]), fun a fr => ?_⟩
                refine sl_run orc_ok 1 rfl fr fun a fr => ?_
                refine sl_end ?_
                refine then_n ?_
                refine wp_seq ?_
                refine wp_region_lit ?_
                refine wl_run orc_ok 2 rfl fr fun a fr => ?_
                obtain ⟨hc, h⟩ := ifs h
                obtain ⟨o49, hx, h⟩ := lt_h h
                have H := order_call (A := A0) (c := c0) (l := l0) (A1 := A1) (c1 := c1) (l1 := l1) (Rk.at rk0 S) (Rk.at rk1 S) (fr.slice (d := 72) rfl) (fr.slice (d := 73) rfl) hc S
                rw [hx] at H
                refine wl_call fr rfl rfl rfl rfl en18 H ?_
                clear H
                rintro _ w ⟨A50, c51, rfl, hv, S⟩
                refine ⟨_, rfl, hv, fun a fr => ?_⟩
                refine wl_run orc_ok 5 rfl fr fun a fr => ?_
                refine wpList_nil ?_
                refine then_n ?_
                refine wp_seq ?_
                refine wp_region_lit ?_
                refine wl_run orc_ok 2 rfl fr fun a fr => ?_
                obtain ⟨hc, h⟩ := ifs h
                obtain ⟨o52, hx, h⟩ := lt_h h
                have H := order_call (A := A26) (c := c27) (l := (((([] : List Int) ++ (List.drop (Int.toNat y6) l0)) ++ (List.take (Int.toNat y6) l0)) ++ [(List.getD l0 (Int.toNat y6) 0)])) (A1 := A47) (c1 := c48) (l1 := (((([] : List Int) ++ (List.drop (Int.toNat y6) l1)) ++ (List.take (Int.toNat y6) l1)) ++ [(List.getD l1 (Int.toNat y6) 0)])) (Sat.ownAt S 2 rfl) (Sat.ownAt S 1 rfl) (fr.slice (d := 78) rfl) (fr.slice (d := 79) rfl) hc S
                rw [hx] at H
                refine wl_call fr rfl rfl rfl rfl en18 H ?_
                clear H
                rintro _ w ⟨A53, c54, rfl, hv, S⟩
                refine ⟨_, rfl, hv, fun a fr => ?_⟩
                refine wl_run orc_ok 5 rfl fr fun a fr => ?_
                refine wpList_nil ?_
                refine then_n ?_
                refine wp_seq ?_
                refine wp_region_sl [.one (0, true, some 84), .one (1, true, some 85), .one (2, true, some 86), .one (3, true, some 87), .one (4, true, some 88), .one (5, true, some 89), .one (6, true, some 90), .one (7, true, some 91), .one (8, true, some 92), .one (9, true, some 93), .one (10, false, some 94), .one (11, true, some 83), .one (12, true, some 95), .one (13, true, some 96), .one (14, true, some 14), .one (15, true, some 15)]
                  [.one ⟨true, some 84, (Go.Op.move (Go.Operand.tmp 0)), 22, none⟩,
    .one ⟨true, some 85, (Go.Op.move (Go.Operand.tmp 1)), 22, none⟩,
    .one ⟨true, some 86, (Go.Op.move (Go.Operand.tmp 1)), 22, none⟩,
    .one ⟨true, some 87, (Go.Op.move (Go.Operand.tmp 7)), 3, none⟩,
    .one ⟨true, some 88, (Go.Op.indexAddr 22 (Go.Operand.tmp 86) (Go.Operand.tmp 87)), 0, none⟩,
    .one ⟨true, some 89, (Go.Op.load 23 (Go.Operand.tmp 88)), 23, none⟩,
    .one ⟨true, some 90, (Go.Op.move (Go.Operand.tmp 0)), 22, none⟩,
    .one ⟨true, some 91, (Go.Op.move (Go.Operand.tmp 7)), 3, none⟩,
    .one ⟨true, some 92, (Go.Op.indexAddr 22 (Go.Operand.tmp 90) (Go.Operand.tmp 91)), 0, none⟩,
    .one ⟨true, some 93, (Go.Op.load 23 (Go.Operand.tmp 92)), 23, none⟩,
    .one ⟨false, some 94, (Go.Op.call { callee := (Go.Callee.value (Go.Operand.func 14)), args := #[(Go.Operand.tmp 84), (Go.Operand.tmp 85), (Go.Operand.tmp 89), (Go.Operand.tmp 93)], argTypes := #[22, 22, 23, 23] }), 27, none⟩,
    .one ⟨true, some 83, (Go.Op.move (Go.Operand.tmp 94)), 27, none⟩,
    .one ⟨true, some 95, (Go.Op.extract (Go.Operand.tmp 83) 0), 4, none⟩,
    .one ⟨true, some 96, (Go.Op.extract (Go.Operand.tmp 83) 1), 26, none⟩,
    .one ⟨true, some 14, (Go.Op.assign (Go.Operand.tmp 95)), 4, none⟩,
    .one ⟨true, some 15, (Go.Op.assign (Go.Operand.tmp 96)), 26, none⟩]
                  (fun w => Sat w0 w [ownA .u32 23 A53 c54 (Option.getD o52 []), ownA .u32 23 A50 c51 (Option.getD o49 []), ownA .u32 23 A47 c48 (((([] : List Int) ++ (List.drop (Int.toNat y6) l1)) ++ (List.take (Int.toNat y6) l1)) ++ [(List.getD l1 (Int.toNat y6) 0)]), ownA .u32 23 A26 c27 (((([] : List Int) ++ (List.drop (Int.toNat y6) l0)) ++ (List.take (Int.toNat y6) l0)) ++ [(List.getD l0 (Int.toNat y6) 0)])]) rfl (by kernel_rfl) (by kernel_rfl) (S.drew.mask [true, true, true, true]) ?_
                have S := S.drew
                refine sl_run orc_ok 4 rfl fr fun a fr => ?_
                obtain ⟨hc, h⟩ := ifs h
                refine sl_ld orc_ok (fun _ S => Rk.at rk1 S) fr rfl rfl rfl rfl rfl rfl rfl rfl rfl rfl rfl rfl rfl rfl rfl rfl rfl rfl hc (Sat.mask S [true, true, true, true]) fun a fr => ?_
                refine sl_run orc_ok 2 rfl fr fun a fr => ?_
                obtain ⟨hc, h⟩ := ifs h
                refine sl_ld orc_ok (fun _ S => Rk.at rk0 S) fr rfl rfl rfl rfl rfl rfl rfl rfl rfl rfl rfl rfl rfl rfl rfl rfl rfl rfl hc (Sat.mask S [true, true, true, true]) fun a fr => ?_
                obtain ⟨hc, h⟩ := ifs h
                obtain ⟨y55, hx, h⟩ := lt_h h
                obtain ⟨y56, hx2, h⟩ := lt_h h
                have H := closes_call (A := A0) (c := c0) (l := l0) (A1 := A1) (c1 := c1) (l1 := l1) (who := (List.getD l1 (Int.toNat y6) 0)) (whom := (List.getD l0 (Int.toNat y6) 0)) (Rk.at rk0 S) (Rk.at rk1 S) (fr.slice (d := 84) rfl) (fr.slice (d := 85) rfl) (fr.int (d := 89) rfl) (fr.int (d := 93) rfl) hc S
                have hv := vok_cl (if List.length l0 = List.length l1 then comesB (List.zip l0 l1) (List.getD l0 (Int.toNat y6) 0) (List.getD l1 (Int.toNat y6) 0) else false) (List.length l0 = List.length l1)
                rw [hx, hx2] at hv H
                refine sl_call fr rfl rfl rfl rfl rfl en14 H ?_
                clear H
                rintro _ w ⟨rfl, S⟩
                refine ⟨_, rfl, hv, (Sat.mask S [true, true, true, true]), fun a fr => ?_⟩
                refine sl_run orc_ok 5 rfl fr fun a fr => ?_
                refine sl_end ?_
                refine then_n ?_
                refine wp_seq ?_
                refine wp_region_lit ?_
                refine wl_run orc_ok 4 rfl fr fun a fr => ?_
                refine wl_split 100 fr rfl h (fun fr h => ?_) (fun fr h => ?_)
                · refine wl_run orc_ok 2 rfl fr fun a fr => ?_
                  obtain ⟨r57, hr, h⟩ := bnd h
                  refine wl_call fr rfl rfl rfl rfl en20 (SameIds.walk k A50 c51 (Option.getD o49 []) A53 c54 (Option.getD o52 []) (Sat.ownAt S 1 rfl) (fr.slice (d := 101) rfl) (Sat.ownAt S 0 rfl) (fr.slice (d := 102) rfl) S hr) ?_
                  rintro _ w ⟨rfl, hv, S⟩
                  refine ⟨_, rfl, hv, fun a fr => ?_⟩
                  refine wl_run orc_ok 2 rfl fr fun a fr => ?_
                  refine wl_split 105 fr rfl h (fun fr h => ?_) (fun fr h => ?_)
                  · refine wl_run orc_ok 4 rfl fr fun a fr => ?_
                    refine wl_split 109 fr rfl h (fun fr h => ?_) (fun fr h => ?_)
                    · refine wl_run orc_ok 3 rfl fr fun a fr => ?_
                      refine wpList_nil ?_
                      refine then_n ?_
                      refine wp_ret ?_
                      injection h with h
                      subst h
                      refine ret1 fr rfl rfl ?_
                      exact ⟨rfl, fr.vok (d := 6) rfl, S.mask [false, false, false, false]⟩
                    · cases h
                  · cases h
                · cases h
  exact (key w rfl (Sat.start w)).mono fun e w' ⟨h1, h2, h3⟩ => ⟨h1, h2, S.new h3.below⟩
end Go.Proofs.Ytjdholnlbhkmeaa.Pl
