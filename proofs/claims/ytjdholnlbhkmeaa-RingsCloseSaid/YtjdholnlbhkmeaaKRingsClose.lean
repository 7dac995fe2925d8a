/- Walks over the program's functions, printed by a program of this work (wip/tools/shal.py): each call does what the plain function says. -/
import Derived.Test.YtjdholnlbhkmeaaProg
import Derived.Test.YtjdholnlbhkmeaaTw
import Derived.Test.YtjdholnlbhkmeaaSo
import Derived.Test.YtjdholnlbhkmeaaDRingsClose
namespace Go.Proofs.Ytjdholnlbhkmeaa.Pl
open Go Go.RowKit Sx Base Own

def orc : Orc := ⟨[(4, .bool), (22, .slice 23), (23, .int .u32), (24, .array 2 23)],
  [(23, 1)]⟩
theorem orc_ok : orc.Ok Try.prog := ⟨⟨Try.underlying4, Try.underlying22, Try.underlying23, Try.underlying24, trivial⟩, ⟨by kernel_rfl, trivial⟩⟩
theorem en13 : Enters Try.prog 13 := fun _ _ => by kernel_rfl
theorem en14 : Enters Try.prog 14 := fun _ _ => by kernel_rfl
theorem en15 : Enters Try.prog 15 := fun _ _ => by kernel_rfl
theorem en16 : Enters Try.prog 16 := fun _ _ => by kernel_rfl
theorem en22 : Enters Try.prog 22 := fun _ _ => by kernel_rfl
theorem en29 : Enters Try.prog 29 := fun _ _ => by kernel_rfl
theorem lit22 : RowTy Try.prog 22 23 .u32 := ⟨Try.underlying22, 4, by decide, by kernel_rfl⟩
set_option maxRecDepth 100000 in
set_option maxHeartbeats 4000000 in
theorem in.walk (k : Nat) (A0 : Option Addr) (c0 : Nat) (l0 : List Int) (a1 : Int) {w0 w : World} {R : List Asn} (rk0 : Rk .u32 w A0 l0) (m0 : l0.length ≤ c0 ∧ c0 ≤ maxLen) (v1 : (Lit.int .u32 a1).wf = true) (S : Sat w0 w R) {r : Bool} (h : in.f k l0 a1 = some r) :
    Calls Try.prog 29 #[(.slice A0 (List.length l0) c0), (.int .u32 a1)] w fun e w' => e = .returned (.bool r) ∧ vok (.bool r) = true ∧ Sat w0 w' R := by
  have key : ∀ w0 : World, w0 = w → Sat w0 w [] → Calls Try.prog 29 #[(.slice A0 (List.length l0) c0), (.int .u32 a1)] w fun e w' => e = .returned (.bool r) ∧ vok (.bool r) = true ∧ Sat w0 w' [] := by
    clear S
    intro w0 hw S
    rw [← hw] at rk0
    clear hw
    unfold in.f at h
    refine calls_start (N := 18) [(.slice A0 (List.length l0) c0), (.int .u32 a1)] Try.func29 rfl rfl rfl (vok_c (vok_sl m0) (vok_c v1 rfl)) fun a fr => ?_
    refine wp_seq ?_
    refine wp_region_lit ?_
    refine wl_run orc_ok 1 rfl fr fun a fr => ?_
    refine wpList_nil ?_
    refine then_n ?_
    refine wp_seq ?_
    refine wp_seq ?_
    refine wp_region_lit ?_
    refine wl_run orc_ok 1 rfl fr fun a fr => ?_
    refine wpList_nil ?_
    refine then_n ?_
    refine wp_block ?_
    refine cw_loop (fun k1 a w => ∃ x1 : Int, Fr 18 a [(0, (.slice A0 (List.length l0) c0)), (1, (.int .u32 a1)), (5, (.int .i64 x1))] ∧ Sat w0 w [] ∧ (in.l1 k1 l0 a1 x1) = some r) k ⟨(0 : Int), fr.sub ⟨rfl, rfl, rfl, trivial⟩, S, h⟩ ?_ ?_
    · rintro a w ⟨x1, -, -, h⟩
      simp only [in.l1] at h
      cases h
    · rintro k1 a w ⟨x1, fr, S, h⟩
      rw [in.l1] at h
      refine wp_seq ?_
      refine wp_seq ?_
      refine wp_region_lit ?_
      refine wl_run orc_ok 4 rfl fr fun a fr => ?_
      refine wpList_nil ?_
      refine then_n ?_
      refine cw_if fr rfl h (fun h => ?_) (fun h => ?_)
      · refine wp_skip ?_
        refine then_n ?_
        refine wp_seq ?_
        refine wp_block ?_
        refine wp_seq ?_
        refine wp_region_lit ?_
        refine wl_run orc_ok 2 rfl fr fun a fr => ?_
        obtain ⟨hc, h⟩ := ifs h
        refine wl_ld orc_ok (Rk.at rk0 S) fr rfl rfl rfl rfl rfl rfl rfl rfl rfl rfl rfl rfl rfl rfl rfl rfl hc fun a fr => ?_
        refine wl_run orc_ok 2 rfl fr fun a fr => ?_
        refine wpList_nil ?_
        refine then_n ?_
        refine cw_if fr rfl h (fun h => ?_) (fun h => ?_)
        · refine wp_seq ?_
          refine wp_region_lit ?_
          refine wl_run orc_ok 1 rfl fr fun a fr => ?_
          refine wpList_nil ?_
          refine then_n ?_
          refine wp_ret ?_
          refine blk_r ?_
          refine then_r ?_
          refine then_r ?_
          refine blk_r ?_
          refine then_r ?_
          injection h with h
          subst h
          refine ret1 fr rfl rfl ?_
          exact ⟨rfl, fr.vok (d := 4) rfl, S.mask []⟩
        · refine wp_skip ?_
          refine blk_n ?_
          refine then_n ?_
          refine wp_region_lit ?_
          refine wl_run orc_ok 3 rfl fr fun a fr => ?_
          refine wpList_nil ?_
          exact ⟨(IntKind.wrap .i64 (x1 + (1 : Int))), fr.sub ⟨rfl, rfl, rfl, trivial⟩, S, h⟩
      · refine wp_exit ?_
        refine then_e ?_
        refine then_e ?_
        refine blk_y ?_
        refine then_n ?_
        refine wp_seq ?_
        refine wp_region_lit ?_
        refine wl_run orc_ok 1 rfl fr fun a fr => ?_
        refine wpList_nil ?_
        refine then_n ?_
        refine wp_ret ?_
        injection h with h
        subst h
        refine ret1 fr rfl rfl ?_
        exact ⟨rfl, fr.vok (d := 4) rfl, S.mask []⟩
  exact (key w rfl (Sat.start w)).mono fun e w' ⟨h1, h2, h3⟩ => ⟨h1, h2, S.new h3.below⟩
set_option maxRecDepth 100000 in
set_option maxHeartbeats 4000000 in
theorem comes.walk (k : Nat) (A0 : Option Addr) (c0 : Nat) (l0 : List Int) (A1 : Option Addr) (c1 : Nat) (l1 : List Int) (a2 : Int) (a3 : Int) {w0 w : World} {R : List Asn} (rk0 : Rk .u32 w A0 l0) (m0 : l0.length ≤ c0 ∧ c0 ≤ maxLen) (rk1 : Rk .u32 w A1 l1) (m1 : l1.length ≤ c1 ∧ c1 ≤ maxLen) (v2 : (Lit.int .u32 a2).wf = true) (v3 : (Lit.int .u32 a3).wf = true) (S : Sat w0 w R) {r : Bool} (h : comes.f k l0 l1 a2 a3 = some r) :
    Calls Try.prog 22 #[(.slice A0 (List.length l0) c0), (.slice A1 (List.length l1) c1), (.int .u32 a2), (.int .u32 a3)] w fun e w' => e = .returned (.bool r) ∧ vok (.bool r) = true ∧ Sat w0 w' R := by
  have key : ∀ w0 : World, w0 = w → Sat w0 w [] → Calls Try.prog 22 #[(.slice A0 (List.length l0) c0), (.slice A1 (List.length l1) c1), (.int .u32 a2), (.int .u32 a3)] w fun e w' => e = .returned (.bool r) ∧ vok (.bool r) = true ∧ Sat w0 w' [] := by
    clear S
    intro w0 hw S
    rw [← hw] at rk0
    rw [← hw] at rk1
    clear hw
    unfold comes.f at h
    refine calls_start (N := 54) [(.slice A0 (List.length l0) c0), (.slice A1 (List.length l1) c1), (.int .u32 a2), (.int .u32 a3)] Try.func22 rfl rfl rfl (vok_c (vok_sl m0) (vok_c (vok_sl m1) (vok_c v2 (vok_c v3 rfl)))) fun a fr => ?_
    refine wp_seq ?_
    refine wp_region_lit ?_
    refine wl_run orc_ok 1 rfl fr fun a fr => ?_
    refine wpList_nil ?_
    refine then_n ?_
    refine wp_seq ?_
    refine wp_region_lit ?_
    refine wl_run orc_ok 1 rfl fr fun a fr => ?_
    refine wl_lit (xs := [a2]) orc_ok lit22 fr rfl rfl rfl rfl ⟨rfl, rfl, trivial⟩ rfl rfl S ?_
    intro w A2 c3 S
    intro a fr
    refine wl_run orc_ok 1 rfl fr fun a fr => ?_
    refine wpList_nil ?_
    refine then_n ?_
    refine wp_seq ?_
    refine wp_seq ?_
    refine wp_region_lit ?_
    refine wl_run orc_ok 1 rfl fr fun a fr => ?_
    refine wpList_nil ?_
    refine then_n ?_
    refine wp_block ?_
    refine cw_loop (fun k1 a w => ∃ A4 : Option Addr, ∃ c5 : Nat, ∃ l6 : List Int, ∃ x7 : Int, Fr 54 a [(0, (.slice A0 (List.length l0) c0)), (1, (.slice A1 (List.length l1) c1)), (3, (.int .u32 a3)), (9, (.slice A4 (List.length l6) c5)), (10, (.int .i64 x7))] ∧ Sat w0 w [ownA .u32 23 A4 c5 l6] ∧ (comes.l1 k1 l0 l1 a3 l6 x7) = some r) k ⟨A2, c3, [a2], (0 : Int), fr.sub ⟨rfl, rfl, rfl, rfl, rfl, trivial⟩, S, h⟩ ?_ ?_
    · rintro a w ⟨A4, c5, l6, x7, -, -, h⟩
      simp only [comes.l1] at h
      cases h
    · rintro k1 a w ⟨A4, c5, l6, x7, fr, S, h⟩
      rw [comes.l1] at h
      refine wp_seq ?_
      refine wp_seq ?_
      refine wp_region_lit ?_
      refine wl_run orc_ok 4 rfl fr fun a fr => ?_
      refine wpList_nil ?_
      refine then_n ?_
      refine cw_if fr rfl h (fun h => ?_) (fun h => ?_)
      · refine wp_skip ?_
        refine then_n ?_
        refine wp_seq ?_
        refine wp_block ?_
        refine wp_seq ?_
        refine wp_region_lit ?_
        refine wl_run orc_ok 1 rfl fr fun a fr => ?_
        refine wpList_nil ?_
        refine then_n ?_
        refine wp_block ?_
        refine cw_loop (fun k2 a w => ∃ A12 : Option Addr, ∃ c13 : Nat, ∃ l14 : List Int, ∃ x15 : Int, Fr 54 a [(0, (.slice A0 (List.length l0) c0)), (1, (.slice A1 (List.length l1) c1)), (3, (.int .u32 a3)), (9, (.slice A12 (List.length l14) c13)), (10, (.int .i64 x7)), (11, (.int .i64 x15))] ∧ Sat w0 w [ownA .u32 23 A12 c13 l14] ∧ (comes.l2 k2 (comes.l1 k1 l0 l1 a3) l0 x7 l1 l14 x15) = some r) k1 ⟨A4, c5, l6, (0 : Int), fr.sub ⟨rfl, rfl, rfl, rfl, rfl, rfl, trivial⟩, S, h⟩ ?_ ?_
        · rintro a w ⟨A12, c13, l14, x15, -, -, h⟩
          simp only [comes.l2] at h
          cases h
        · rintro k2 a w ⟨A12, c13, l14, x15, fr, S, h⟩
          rw [comes.l2] at h
          refine wp_seq ?_
          refine wp_seq ?_
          refine wp_region_lit ?_
          refine wl_run orc_ok 4 rfl fr fun a fr => ?_
          refine wpList_nil ?_
          refine then_n ?_
          refine cw_if fr rfl h (fun h => ?_) (fun h => ?_)
          · refine wp_skip ?_
            refine then_n ?_
            refine cw_cut (fun a w => ∃ A20 : Option Addr, ∃ c21 : Nat, ∃ l22 : List Int, Fr 54 a [(0, (.slice A0 (List.length l0) c0)), (1, (.slice A1 (List.length l1) c1)), (3, (.int .u32 a3)), (9, (.slice A20 (List.length l22) c21)), (10, (.int .i64 x7)), (11, (.int .i64 x15))] ∧ Sat w0 w [ownA .u32 23 A20 c21 l22] ∧ (comes.j1 (comes.l2 k2 (comes.l1 k1 l0 l1 a3) l0 x7 l1) x15 l22) = some r) ?_ ?_
            · refine wp_block ?_
              refine wp_seq ?_
              refine wp_region_sl [.one (0, true, some 26), .one (1, true, some 27), .one (2, true, some 28), .one (3, true, some 29), .one (4, true, some 30), .one (5, true, some 31), .one (6, true, some 32), .one (7, true, some 33), .one (8, true, some 34), .one (9, true, some 35), .one (10, true, some 36), .one (11, true, some 37), .one (12, true, some 38), .one (13, true, some 39), .one (14, true, some 40), .one (15, false, some 41), .one (16, true, some 42), .one (17, true, some 43)]
                [.one ⟨true, some 26, (Go.Op.move (Go.Operand.tmp 0)), 22, none⟩,
    .one ⟨true, some 27, (Go.Op.move (Go.Operand.tmp 11)), 3, none⟩,
    .one ⟨true, some 28, (Go.Op.indexAddr 22 (Go.Operand.tmp 26) (Go.Operand.tmp 27)), 0, none⟩,
    .one ⟨true, some 29, (Go.Op.load 23 (Go.Operand.tmp 28)), 23, none⟩,
    .one ⟨true, some 30, (Go.Op.move (Go.Operand.tmp 9)), 22, none⟩,
    .one ⟨true, some 31, (Go.Op.move (Go.Operand.tmp 10)), 3, none⟩,
    .one ⟨true, some 32, (Go.Op.indexAddr 22 (Go.Operand.tmp 30) (Go.Operand.tmp 31)), 0, none⟩,
    .one ⟨true, some 33, (Go.Op.load 23 (Go.Operand.tmp 32)), 23, none⟩,
    .one ⟨true, some 34, (Go.Op.binOp Go.BinOp.eql 23 (Go.Operand.tmp 29) (Go.Operand.tmp 33) 23), 4, none⟩,
    .one ⟨true, some 35, (Go.Op.move (Go.Operand.tmp 34)), 4, none⟩,
    .one ⟨true, some 36, (Go.Op.move (Go.Operand.tmp 9)), 22, some (35, true)⟩,
    .one ⟨true, some 37, (Go.Op.move (Go.Operand.tmp 1)), 22, some (35, true)⟩,
    .one ⟨true, some 38, (Go.Op.move (Go.Operand.tmp 11)), 3, some (35, true)⟩,
    .one ⟨true, some 39, (Go.Op.indexAddr 22 (Go.Operand.tmp 37) (Go.Operand.tmp 38)), 0, some (35, true)⟩,
    .one ⟨true, some 40, (Go.Op.load 23 (Go.Operand.tmp 39)), 23, some (35, true)⟩,
    .one ⟨false, some 41, (Go.Op.call { callee := (Go.Callee.value (Go.Operand.func 29)), args := #[(Go.Operand.tmp 36), (Go.Operand.tmp 40)], argTypes := #[22, 23] }), 4, some (35, true)⟩,
    .one ⟨true, some 42, (Go.Op.unOp Go.UnOp.not 4 (Go.Operand.tmp 41)), 4, some (35, true)⟩,
    .one ⟨true, some 43, (Go.Op.pick (Go.Operand.tmp 35) (Go.Operand.tmp 42) (Go.Operand.const (Go.Value.bool false))), 4, none⟩]
                (fun w => Sat w0 w [ownA .u32 23 A12 c13 l14]) rfl (by kernel_rfl) (by kernel_rfl) (S.drew.mask [true]) ?_
              have S := S.drew
              refine sl_run orc_ok 2 rfl fr fun a fr => ?_
              obtain ⟨hc, h⟩ := ifs h
              refine sl_ld orc_ok (fun _ S => Rk.at rk0 S) fr rfl rfl rfl rfl rfl rfl rfl rfl rfl rfl rfl rfl rfl rfl rfl rfl rfl rfl hc (Sat.mask S [true]) fun a fr => ?_
              refine sl_run orc_ok 2 rfl fr fun a fr => ?_
              obtain ⟨hc, h⟩ := ifs h
              refine sl_ld orc_ok (fun _ S => Sat.ownAt S 0 rfl) fr rfl rfl rfl rfl rfl rfl rfl rfl rfl rfl rfl rfl rfl rfl rfl rfl rfl rfl hc (Sat.mask S [true]) fun a fr => ?_
              refine sl_run orc_ok 2 rfl fr fun a fr => ?_
              refine sl_split 35 fr rfl h (fun fr h => ?_) (fun fr h => ?_)
              · refine sl_run orc_ok 3 rfl fr fun a fr => ?_
                obtain ⟨hc, h⟩ := ifs h
                refine sl_ld orc_ok (fun _ S => Rk.at rk1 S) fr rfl rfl rfl rfl rfl rfl rfl rfl rfl rfl rfl rfl rfl rfl rfl rfl rfl rfl hc (Sat.mask S [true]) fun a fr => ?_
                obtain ⟨r23, hr, h⟩ := bnd h
                refine sl_call fr rfl rfl rfl rfl rfl en29 (in.walk k2 A12 c13 l14 (List.getD l1 (Int.toNat x15) 0) (Sat.ownAt S 0 rfl) (fr.slice (d := 36) rfl) (fr.int (d := 40) rfl) S hr) ?_
                rintro _ w ⟨rfl, hv, S⟩
                refine ⟨_, rfl, hv, (Sat.mask S [true]), fun a fr => ?_⟩
                refine sl_run orc_ok 2 rfl fr fun a fr => ?_
                refine sl_end ?_
                refine then_n ?_
                refine cw_if fr rfl h (fun h => ?_) (fun h => ?_)
                · refine wp_region_lit ?_
                  refine wl_run orc_ok 3 rfl fr fun a fr => ?_
                  obtain ⟨hc, h⟩ := ifs h
                  refine wl_ld orc_ok (Rk.at rk1 S) fr rfl rfl rfl rfl rfl rfl rfl rfl rfl rfl rfl rfl rfl rfl rfl rfl hc fun a fr => ?_
                  refine wl_lit (xs := [(List.getD l1 (Int.toNat x15) 0)]) orc_ok lit22 fr rfl rfl rfl rfl ⟨rfl, rfl, trivial⟩ rfl rfl S ?_
                  intro w A24 c25 S
                  intro a fr
                  obtain ⟨hc, h⟩ := ifs h
                  have S : Sat w0 _ [ownA .u32 23 A12 c13 l14, ownA .u32 23 A24 c25 [(List.getD l1 (Int.toNat x15) 0)]] := S.frontAt 1 rfl
                  have hy := (Sat.ownAt S 1 rfl)
                  refine wl_app lit22 fr rfl rfl rfl rfl rfl rfl rfl rfl hy hc S ?_
                  intro w A26 c27 S
                  have S : Sat w0 _ [ownA .u32 23 A26 c27 (l14 ++ [(List.getD l1 (Int.toNat x15) 0)])] := S.mask [true, false]
                  intro a fr
                  refine wl_run orc_ok 1 rfl fr fun a fr => ?_
                  refine wpList_nil ?_
                  refine blk_n ?_
                  exact ⟨A26, c27, (l14 ++ [(List.getD l1 (Int.toNat x15) 0)]), fr.sub ⟨rfl, rfl, rfl, rfl, rfl, rfl, trivial⟩, S, h⟩
                · refine wp_skip ?_
                  refine blk_n ?_
                  exact ⟨A12, c13, l14, fr.sub ⟨rfl, rfl, rfl, rfl, rfl, rfl, trivial⟩, S, h⟩
              · refine sl_run orc_ok 5 rfl fr fun a fr => ?_
                refine sl_no fr rfl (Sat.mask S [true]) rfl rfl fun a fr => ?_
                refine sl_run orc_ok 2 rfl fr fun a fr => ?_
                refine sl_end ?_
                refine then_n ?_
                refine cw_f fr rfl ?_
                refine wp_skip ?_
                refine blk_n ?_
                exact ⟨A12, c13, l14, fr.sub ⟨rfl, rfl, rfl, rfl, rfl, rfl, trivial⟩, S, h⟩
            · rintro a w ⟨A20, c21, l22, fr, S, h⟩
              rw [comes.j1] at h
              refine wp_region_lit ?_
              refine wl_run orc_ok 3 rfl fr fun a fr => ?_
              refine wpList_nil ?_
              exact ⟨A20, c21, l22, (IntKind.wrap .i64 (x15 + (1 : Int))), fr.sub ⟨rfl, rfl, rfl, rfl, rfl, rfl, trivial⟩, S, h⟩
          · refine wp_exit ?_
            refine then_e ?_
            refine then_e ?_
            refine blk_y ?_
            refine blk_n ?_
            refine then_n ?_
            refine wp_region_lit ?_
            refine wl_run orc_ok 3 rfl fr fun a fr => ?_
            refine wpList_nil ?_
            exact ⟨A12, c13, l14, (IntKind.wrap .i64 (x7 + (1 : Int))), fr.sub ⟨rfl, rfl, rfl, rfl, rfl, trivial⟩, S, h⟩
      · refine wp_exit ?_
        refine then_e ?_
        refine then_e ?_
        refine blk_y ?_
        refine then_n ?_
        refine wp_seq ?_
        refine wp_region_lit ?_
        refine wl_run orc_ok 2 rfl fr fun a fr => ?_
        obtain ⟨r28, hr, h⟩ := bnd h
        refine wl_call fr rfl rfl rfl rfl en29 (in.walk k1 A4 c5 l6 a3 (Sat.ownAt S 0 rfl) (fr.slice (d := 51) rfl) (fr.int (d := 52) rfl) S hr) ?_
        rintro _ w ⟨rfl, hv, S⟩
        refine ⟨_, rfl, hv, fun a fr => ?_⟩
        refine wl_run orc_ok 1 rfl fr fun a fr => ?_
        refine wpList_nil ?_
        refine then_n ?_
        refine wp_ret ?_
        injection h with h
        subst h
        refine ret1 fr rfl rfl ?_
        exact ⟨rfl, fr.vok (d := 8) rfl, S.mask [false]⟩
  exact (key w rfl (Sat.start w)).mono fun e w' ⟨h1, h2, h3⟩ => ⟨h1, h2, S.new h3.below⟩
set_option maxRecDepth 100000 in
set_option maxHeartbeats 4000000 in
theorem Closes.walk (k : Nat) (A0 : Option Addr) (c0 : Nat) (l0 : List Int) (A1 : Option Addr) (c1 : Nat) (l1 : List Int) (a2 : Int) (a3 : Int) {w0 w : World} {R : List Asn} (rk0 : Rk .u32 w A0 l0) (m0 : l0.length ≤ c0 ∧ c0 ≤ maxLen) (rk1 : Rk .u32 w A1 l1) (m1 : l1.length ≤ c1 ∧ c1 ≤ maxLen) (v2 : (Lit.int .u32 a2).wf = true) (v3 : (Lit.int .u32 a3).wf = true) (S : Sat w0 w R) {r : Bool × Int} (h : Closes.f k l0 l1 a2 a3 = some r) :
    Calls Try.prog 15 #[(.slice A0 (List.length l0) c0), (.slice A1 (List.length l1) c1), (.int .u32 a2), (.int .u32 a3)] w fun e w' => e = .returned (.tuple #[(.bool r.1), (.int .i64 r.2)]) ∧ vok (.tuple #[(.bool r.1), (.int .i64 r.2)]) = true ∧ Sat w0 w' R := by
  have key : ∀ w0 : World, w0 = w → Sat w0 w [] → Calls Try.prog 15 #[(.slice A0 (List.length l0) c0), (.slice A1 (List.length l1) c1), (.int .u32 a2), (.int .u32 a3)] w fun e w' => e = .returned (.tuple #[(.bool r.1), (.int .i64 r.2)]) ∧ vok (.tuple #[(.bool r.1), (.int .i64 r.2)]) = true ∧ Sat w0 w' [] := by
    clear S
    intro w0 hw S
    rw [← hw] at rk0
    rw [← hw] at rk1
    clear hw
    unfold Closes.f at h
    refine calls_start (N := 20) [(.slice A0 (List.length l0) c0), (.slice A1 (List.length l1) c1), (.int .u32 a2), (.int .u32 a3)] Try.func15 rfl rfl rfl (vok_c (vok_sl m0) (vok_c (vok_sl m1) (vok_c v2 (vok_c v3 rfl)))) fun a fr => ?_
    refine wp_seq ?_
    refine wp_region_lit ?_
    refine wl_run orc_ok 2 rfl fr fun a fr => ?_
    refine wpList_nil ?_
    refine then_n ?_
    refine wp_seq ?_
    refine wp_seq ?_
    refine wp_region_lit ?_
    refine wl_run orc_ok 5 rfl fr fun a fr => ?_
    refine wpList_nil ?_
    refine then_n ?_
    refine cw_if fr rfl h (fun h => ?_) (fun h => ?_)
    · refine wp_seq ?_
      refine wp_region_lit ?_
      refine wl_run orc_ok 2 rfl fr fun a fr => ?_
      refine wpList_nil ?_
      refine then_n ?_
      refine wp_ret ?_
      refine then_r ?_
      injection h with h
      subst h
      refine ret2 fr rfl rfl rfl ?_
      exact ⟨rfl, vok_tupbi fr (d := 8) (e := 9) rfl rfl, S.mask []⟩
    · refine wp_skip ?_
      refine then_n ?_
      refine wp_seq ?_
      refine wp_region_lit ?_
      refine wl_run orc_ok 4 rfl fr fun a fr => ?_
      obtain ⟨r1, hr, h⟩ := bnd h
      refine wl_call fr rfl rfl rfl rfl en22 (comes.walk k A0 c0 l0 A1 c1 l1 a3 a2 (Rk.at rk0 S) (fr.slice (d := 15) rfl) (Rk.at rk1 S) (fr.slice (d := 16) rfl) (fr.int (d := 17) rfl) (fr.int (d := 18) rfl) S hr) ?_
      rintro _ w ⟨rfl, hv, S⟩
      refine ⟨_, rfl, hv, fun a fr => ?_⟩
      refine wl_run orc_ok 2 rfl fr fun a fr => ?_
      refine wpList_nil ?_
      refine then_n ?_
      refine wp_ret ?_
      injection h with h
      subst h
      refine ret2 fr rfl rfl rfl ?_
      exact ⟨rfl, vok_tupbi fr (d := 8) (e := 9) rfl rfl, S.mask []⟩
  exact (key w rfl (Sat.start w)).mono fun e w' ⟨h1, h2, h3⟩ => ⟨h1, h2, S.new h3.below⟩
set_option maxRecDepth 100000 in
set_option maxHeartbeats 4000000 in
theorem RingsClose.walk (k : Nat) (A0 : Option Addr) (c0 : Nat) (l0 : List Int) (A1 : Option Addr) (c1 : Nat) (l1 : List Int) (l2 : List Int) {w0 w : World} {R : List Asn} (rk0 : Rk .u32 w A0 l0) (m0 : l0.length ≤ c0 ∧ c0 ≤ maxLen) (rk1 : Rk .u32 w A1 l1) (m1 : l1.length ≤ c1 ∧ c1 ≤ maxLen) (n2 : l2.length = 2) (v2 : ∀ z ∈ l2, (Lit.int .u32 z).wf = true) (S : Sat w0 w R) {r : Bool} (h : RingsClose.f k l0 l1 l2 = some r) :
    Calls Try.prog 3 #[(.slice A0 (List.length l0) c0), (.slice A1 (List.length l1) c1), (.agg (List.map (Value.int .u32) l2).toArray)] w fun e w' => e = .returned (.bool r) ∧ vok (.bool r) = true ∧ Sat w0 w' R := by
  have key : ∀ w0 : World, w0 = w → Sat w0 w [] → Calls Try.prog 3 #[(.slice A0 (List.length l0) c0), (.slice A1 (List.length l1) c1), (.agg (List.map (Value.int .u32) l2).toArray)] w fun e w' => e = .returned (.bool r) ∧ vok (.bool r) = true ∧ Sat w0 w' [] := by
    clear S
    intro w0 hw S
    rw [← hw] at rk0
    rw [← hw] at rk1
    clear hw
    unfold RingsClose.f at h
    refine calls_start (N := 63) [(.slice A0 (List.length l0) c0), (.slice A1 (List.length l1) c1), (.agg (List.map (Value.int .u32) l2).toArray)] Try.func3 rfl rfl rfl (vok_c (vok_sl m0) (vok_c (vok_sl m1) (vok_c (vok_ag v2) rfl))) fun a fr => ?_
    refine wp_seq ?_
    refine wp_region_lit ?_
    refine wl_box fr rfl rfl rfl rfl rfl n2 (fun _ => rfl) S ?_
    intro w g1 S a fr
    refine wl_run orc_ok 1 rfl fr fun a fr => ?_
    refine wpList_nil ?_
    refine then_n ?_
    refine wp_seq ?_
    refine wp_seq ?_
    refine wp_region_lit ?_
    refine wl_run orc_ok 4 rfl fr fun a fr => ?_
    refine wl_split 16 fr rfl h (fun fr h => ?_) (fun fr h => ?_)
    · refine wl_run orc_ok 4 rfl fr fun a fr => ?_
      refine wpList_nil ?_
      refine then_n ?_
      refine cw_t fr rfl ?_
      refine wp_seq ?_
      refine wp_region_lit ?_
      refine wl_run orc_ok 1 rfl fr fun a fr => ?_
      refine wpList_nil ?_
      refine then_n ?_
      refine wp_ret ?_
      refine then_r ?_
      injection h with h
      subst h
      refine ret1 fr rfl rfl ?_
      exact ⟨rfl, fr.vok (d := 6) rfl, S.mask [false]⟩
    · refine wl_run orc_ok 4 rfl fr fun a fr => ?_
      refine wpList_nil ?_
      refine then_n ?_
      refine cw_if fr rfl h (fun h => ?_) (fun h => ?_)
      · refine wp_seq ?_
        refine wp_region_lit ?_
        refine wl_run orc_ok 1 rfl fr fun a fr => ?_
        refine wpList_nil ?_
        refine then_n ?_
        refine wp_ret ?_
        refine then_r ?_
        injection h with h
        subst h
        refine ret1 fr rfl rfl ?_
        exact ⟨rfl, fr.vok (d := 6) rfl, S.mask [false]⟩
      · refine wp_skip ?_
        refine then_n ?_
        refine wp_seq ?_
        refine wp_region_lit ?_
        refine wl_run orc_ok 1 rfl fr fun a fr => ?_
        obtain ⟨hc, h⟩ := ifs h
        refine wl_call fr rfl rfl rfl rfl en13 (twin_call (Rk.at rk0 S) hc S) ?_
        rintro _ w ⟨A2, c3, rfl, hv, S⟩
        refine ⟨_, rfl, hv, fun a fr => ?_⟩
        refine wl_run orc_ok 1 rfl fr fun a fr => ?_
        refine wpList_nil ?_
        refine then_n ?_
        refine wp_seq ?_
        refine wp_region_lit ?_
        refine wl_run orc_ok 1 rfl fr fun a fr => ?_
        obtain ⟨hc, h⟩ := ifs h
        refine wl_call fr rfl rfl rfl rfl en13 (twin_call (Rk.at rk1 S) hc S) ?_
        rintro _ w ⟨A4, c5, rfl, hv, S⟩
        refine ⟨_, rfl, hv, fun a fr => ?_⟩
        refine wl_run orc_ok 1 rfl fr fun a fr => ?_
        refine wpList_nil ?_
        refine then_n ?_
        refine wp_seq ?_
        refine wp_region_lit ?_
        refine wl_run orc_ok 2 rfl fr fun a fr => ?_
        obtain ⟨hc, h⟩ := ifs h
        refine wl_lda orc_ok 0 (Sat.arrAt S 2 rfl) fr rfl rfl rfl rfl rfl rfl rfl rfl rfl rfl rfl rfl rfl rfl rfl rfl hc fun a fr => ?_
        obtain ⟨hc, h⟩ := ifs h
        refine wl_lda orc_ok 0 (Sat.arrAt S 2 rfl) fr rfl rfl rfl rfl rfl rfl rfl rfl rfl rfl rfl rfl rfl rfl rfl rfl hc fun a fr => ?_
        obtain ⟨hc, h⟩ := ifs h
        obtain ⟨y6, hx, h⟩ := lt_h h
        obtain ⟨y7, hx2, h⟩ := lt_h h
        refine wl_call fr rfl rfl rfl rfl en14 (closes_call (who := (List.getD l2 (Int.toNat (0 : Int)) 0)) (whom := (List.getD l2 (Int.toNat (1 : Int)) 0)) (Sat.twnAt S 1 rfl) (Sat.twnAt S 0 rfl) (fr.slice (d := 26) rfl) (fr.slice (d := 27) rfl) (fr.int (d := 29) rfl) (fr.int (d := 31) rfl) hc S) ?_
        rintro _ w ⟨rfl, S⟩
        have hv := vok_cl (if List.length l0 = List.length l1 then comesB (List.zip l0 l1) (List.getD l2 (Int.toNat (1 : Int)) 0) (List.getD l2 (Int.toNat (0 : Int)) 0) else false) (List.length l0 = List.length l1)
        rw [hx, hx2] at hv
        refine ⟨_, rfl, by rw [hx, hx2]; exact hv, fun a fr => ?_⟩
        rw [hx, hx2] at fr
        refine wl_run orc_ok 5 rfl fr fun a fr => ?_
        refine wpList_nil ?_
        refine then_n ?_
        refine wp_seq ?_
        refine wp_region_lit ?_
        refine wl_run orc_ok 2 rfl fr fun a fr => ?_
        obtain ⟨hc, h⟩ := ifs h
        refine wl_lda orc_ok 0 (Sat.arrAt S 2 rfl) fr rfl rfl rfl rfl rfl rfl rfl rfl rfl rfl rfl rfl rfl rfl rfl rfl hc fun a fr => ?_
        obtain ⟨hc, h⟩ := ifs h
        refine wl_lda orc_ok 0 (Sat.arrAt S 2 rfl) fr rfl rfl rfl rfl rfl rfl rfl rfl rfl rfl rfl rfl rfl rfl rfl rfl hc fun a fr => ?_
        obtain ⟨r8, hr, h⟩ := bnd h
        refine wl_call fr rfl rfl rfl rfl en15 (Closes.walk k A0 c0 l0 A1 c1 l1 (List.getD l2 (Int.toNat (0 : Int)) 0) (List.getD l2 (Int.toNat (1 : Int)) 0) (Rk.at rk0 S) (fr.slice (d := 36) rfl) (Rk.at rk1 S) (fr.slice (d := 37) rfl) (fr.int (d := 39) rfl) (fr.int (d := 41) rfl) S hr) ?_
        rintro _ w ⟨rfl, hv, S⟩
        refine ⟨_, rfl, hv, fun a fr => ?_⟩
        refine wl_run orc_ok 5 rfl fr fun a fr => ?_
        refine wpList_nil ?_
        refine then_n ?_
        refine wp_seq ?_
        refine wp_region_lit ?_
        refine wl_run orc_ok 4 rfl fr fun a fr => ?_
        refine wl_split 48 fr rfl h (fun fr h => ?_) (fun fr h => ?_)
        · refine wl_run orc_ok 5 rfl fr fun a fr => ?_
          refine wl_split 53 fr rfl h (fun fr h => ?_) (fun fr h => ?_)
          · refine wl_run orc_ok 2 rfl fr fun a fr => ?_
            have S : Sat w0 _ [twA A2 c3 l0, twA A4 c5 l1, arrA (Value.int .u32) 24 2 g1 l2] := S.frontAt 1 rfl
            obtain ⟨hc, h⟩ := ifs h
            refine wl_call fr rfl rfl rfl rfl en16 (left_call (Rk.at rk0 S) hc S) ?_
            rintro _ w ⟨rfl, S⟩
            refine ⟨_, rfl, rfl, fun a fr => ?_⟩
            refine wl_run orc_ok 4 rfl fr fun a fr => ?_
            have S : Sat w0 _ [twA A4 c5 l1, twA A2 c3 l0, arrA (Value.int .u32) 24 2 g1 l2] := S.frontAt 1 rfl
            obtain ⟨hc, h⟩ := ifs h
            refine wl_call fr rfl rfl rfl rfl en16 (left_call (Rk.at rk1 S) hc S) ?_
            rintro _ w ⟨rfl, S⟩
            refine ⟨_, rfl, rfl, fun a fr => ?_⟩
            refine wl_run orc_ok 2 rfl fr fun a fr => ?_
            refine wpList_nil ?_
            refine then_n ?_
            refine wp_ret ?_
            injection h with h
            subst h
            refine ret1 fr rfl rfl ?_
            exact ⟨rfl, fr.vok (d := 6) rfl, S.mask [false, false, false]⟩
          · cases h
        · cases h
  exact (key w rfl (Sat.start w)).mono fun e w' ⟨h1, h2, h3⟩ => ⟨h1, h2, S.new h3.below⟩
end Go.Proofs.Ytjdholnlbhkmeaa.Pl
