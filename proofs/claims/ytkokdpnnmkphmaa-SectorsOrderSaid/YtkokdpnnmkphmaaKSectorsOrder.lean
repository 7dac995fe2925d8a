/- Walks over the program's functions, printed by a program of this work (wip/tools/shal.py): each call does what the plain function says. -/
import Derived.Test.YtkokdpnnmkphmaaSe
import Derived.Test.YtkokdpnnmkphmaaSn
import Derived.Test.YtkokdpnnmkphmaaSo
import Derived.Test.YtkokdpnnmkphmaaDSectorsOrder
namespace Go.Proofs.Ytkokdpnnmkphmaa.Pl
open Go Go.RowKit Sx Base Own Disk Bytes

def orc : Orc := ⟨[(3, .int .i64), (4, .bool), (5, .int .u8), (22, .slice 5), (51, .slice 3), (52, .array 16 4)],
  [(3, 1), (4, 1), (5, 1)]⟩
theorem orc_ok : orc.Ok Try.prog := ⟨⟨Try.underlying3, Try.underlying4, Try.underlying5, Try.underlying22, Try.underlying51, Try.underlying52, trivial⟩, ⟨by kernel_rfl, by kernel_rfl, by kernel_rfl, trivial⟩⟩
theorem en11 : Enters Try.prog 11 := fun _ _ => by kernel_rfl
theorem en12 : Enters Try.prog 12 := fun _ _ => by kernel_rfl
theorem en15 : Enters Try.prog 15 := fun _ _ => by kernel_rfl
theorem en16 : Enters Try.prog 16 := fun _ _ => by kernel_rfl
theorem en18 : Enters Try.prog 18 := fun _ _ => by kernel_rfl
theorem en20 : Enters Try.prog 20 := fun _ _ => by kernel_rfl
theorem zero52 : ∀ W, (zeroValue 52).run Try.prog W = .ok (.agg (List.map Value.bool (List.replicate 16 false)).toArray) W := fun _ => by kernel_rfl
theorem lit22 : RowTy Try.prog 22 5 .u8 := ⟨Try.underlying22, 1, by decide, by kernel_rfl⟩
theorem lit51 : RowTy Try.prog 51 3 .i64 := ⟨Try.underlying51, 8, by decide, by kernel_rfl⟩
set_option maxRecDepth 100000 in
set_option maxHeartbeats 4000000 in
theorem SectorsOrder.walk (k : Nat) (A0 : Option Addr) (c0 : Nat) (l0 : List Int) (a1 : Int) {w0 w : World} {R : List Asn} (r0 : Rk .u8 w A0 l0) (m0 : l0.length ≤ c0 ∧ c0 ≤ maxLen) (v1 : (Lit.int .u8 a1).wf = true) (S : Sat w0 w R) {r : Bool} (h : SectorsOrder.f k l0 a1 = some r) :
    Calls Try.prog 7 #[(.slice A0 (List.length l0) c0), (.int .u8 a1)] w fun e w' => e = .returned (.bool r) ∧ vok (.bool r) = true ∧ Sat w0 w' R := by
  have key : ∀ w0 : World, w0 = w → Sat w0 w [] → Calls Try.prog 7 #[(.slice A0 (List.length l0) c0), (.int .u8 a1)] w fun e w' => e = .returned (.bool r) ∧ vok (.bool r) = true ∧ Sat w0 w' [] := by
    clear S
    intro w0 hw S
    rw [← hw] at r0
    clear hw
    unfold SectorsOrder.f at h
    refine calls_start (N := 151) [(.slice A0 (List.length l0) c0), (.int .u8 a1)] Try.func7 rfl rfl rfl (vok_c (vok_sl m0) (vok_c v1 rfl)) fun a fr => ?_
    refine wp_seq ?_
    refine wp_region_lit ?_
    refine wl_run orc_ok 1 rfl fr fun a fr => ?_
    refine wpList_nil ?_
    refine then_n ?_
    refine wp_seq ?_
    refine wp_seq ?_
    refine wp_region_lit ?_
    refine wl_call fr rfl rfl rfl rfl en16 (alive04 S) ?_
    rintro _ w ⟨rfl, S⟩
    refine ⟨_, rfl, rfl, fun a fr => ?_⟩
    refine wl_run orc_ok 6 rfl fr fun a fr => ?_
    refine wpList_nil ?_
    refine then_n ?_
    refine cw_if fr rfl h (fun h => ?_) (fun h => ?_)
    · refine wp_seq ?_
      refine wp_region_lit ?_
      refine wl_call fr rfl rfl rfl rfl en16 (alive04 S) ?_
      rintro _ w ⟨rfl, S⟩
      refine ⟨_, rfl, rfl, fun a fr => ?_⟩
      refine wl_run orc_ok 1 rfl fr fun a fr => ?_
      refine wpList_nil ?_
      refine then_n ?_
      refine wp_ret ?_
      refine then_r ?_
      injection h with h
      subst h
      refine ret1 fr rfl rfl ?_
      exact ⟨rfl, fr.vok (d := 4) rfl, S.mask []⟩
    · refine wp_skip ?_
      refine then_n ?_
      refine wp_seq ?_
      refine wp_region_lit ?_
      refine wl_run orc_ok 1 rfl fr fun a fr => ?_
      refine wpList_nil ?_
      refine then_n ?_
      refine wp_seq ?_
      refine wp_region_lit ?_
      refine wl_alloc fr rfl rfl rfl rfl zero52 rfl (by decide) S ?_
      intro w g1 S a fr
      refine wpList_nil ?_
      refine then_n ?_
      refine wp_seq ?_
      refine wp_seq ?_
      refine wp_region_lit ?_
      refine wl_run orc_ok 1 rfl fr fun a fr => ?_
      refine wpList_nil ?_
      refine then_n ?_
      refine wp_block ?_
      have S : Sat w0 _ [ownA .i64 3 none 0 ([] : List Int), arrA Value.bool 52 16 g1 (List.replicate 16 false)] := S.nilRow .i64 3
      refine cw_loop (fun k1 a w => ∃ A2 : Option Addr, ∃ c3 : Nat, ∃ l4 : List Int, ∃ l5 : List Bool, ∃ x6 : Int, Fr 151 a [(0, (.slice A0 (List.length l0) c0)), (1, (.int .u8 a1)), (5, (.slice A2 (List.length l4) c3)), (6, (.pointer (some ⟨g1, 0, none⟩))), (7, (.int .i64 x6))] ∧ Sat w0 w [ownA .i64 3 A2 c3 l4, arrA Value.bool 52 16 g1 l5] ∧ (SectorsOrder.l1 k1 l0 a1 l4 l5 x6) = some r) k ⟨none, 0, ([] : List Int), (List.replicate 16 false), (0 : Int), fr.sub ⟨rfl, rfl, rfl, rfl, rfl, trivial⟩, S, h⟩ ?_ ?_
      · rintro a w ⟨A2, c3, l4, l5, x6, -, -, h⟩
        simp only [SectorsOrder.l1] at h
        cases h
      · rintro k1 a w ⟨A2, c3, l4, l5, x6, fr, S, h⟩
        rw [SectorsOrder.l1] at h
        refine wp_seq ?_
        refine wp_seq ?_
        refine wp_region_lit ?_
        refine wl_run orc_ok 4 rfl fr fun a fr => ?_
        refine wpList_nil ?_
        refine then_n ?_
        refine cw_if fr rfl h (fun h => ?_) (fun h => ?_)
        · refine wp_skip ?_
          refine then_n ?_
          refine wp_seq ?_
          refine wp_block ?_
          refine cw_cut (fun a w => ∃ A12 : Option Addr, ∃ c13 : Nat, ∃ l14 : List Int, Fr 151 a [(0, (.slice A0 (List.length l0) c0)), (1, (.int .u8 a1)), (5, (.slice A12 (List.length l14) c13)), (6, (.pointer (some ⟨g1, 0, none⟩))), (7, (.int .i64 x6))] ∧ Sat w0 w [ownA .i64 3 A12 c13 l14, arrA Value.bool 52 16 g1 l5] ∧ (SectorsOrder.j1 (SectorsOrder.l1 k1 l0 a1) x6 l0 l5 l14) = some r) ?_ ?_
          · refine wp_seq ?_
            refine wp_region_lit ?_
            refine wl_run orc_ok 2 rfl fr fun a fr => ?_
            obtain ⟨hc, h⟩ := ifs h
            refine wl_ld orc_ok (Rk.at r0 S) fr rfl rfl rfl rfl rfl rfl rfl rfl rfl rfl rfl rfl rfl rfl rfl rfl hc fun a fr => ?_
            refine wl_run orc_ok 1 rfl fr fun a fr => ?_
            obtain ⟨hc, h⟩ := ifs h
            refine wl_lda orc_ok false (Sat.arrAt S 1 rfl) fr rfl rfl rfl rfl rfl rfl rfl rfl rfl rfl rfl rfl rfl rfl rfl rfl hc fun a fr => ?_
            refine wl_run orc_ok 1 rfl fr fun a fr => ?_
            refine wpList_nil ?_
            refine then_n ?_
            refine cw_if fr rfl h (fun h => ?_) (fun h => ?_)
            · refine wp_region_lit ?_
              refine wl_run orc_ok 3 rfl fr fun a fr => ?_
              obtain ⟨hc, h⟩ := ifs h
              refine wl_ld orc_ok (Rk.at r0 S) fr rfl rfl rfl rfl rfl rfl rfl rfl rfl rfl rfl rfl rfl rfl rfl rfl hc fun a fr => ?_
              refine wl_run orc_ok 2 rfl fr fun a fr => ?_
              refine wl_lit (xs := [(IntKind.wrap .i64 (Int.tmod (List.getD l0 (Int.toNat x6) 0) (16 : Int)))]) orc_ok lit51 fr rfl rfl rfl rfl ⟨rfl, rfl, trivial⟩ rfl rfl S ?_
              intro w A15 c16 S
              intro a fr
              obtain ⟨hc, h⟩ := ifs h
              have S : Sat w0 _ [ownA .i64 3 A2 c3 l4, ownA .i64 3 A15 c16 [(IntKind.wrap .i64 (Int.tmod (List.getD l0 (Int.toNat x6) 0) (16 : Int)))], arrA Value.bool 52 16 g1 l5] := S.frontAt 1 rfl
              have hy := (Sat.ownAt S 1 rfl)
              refine wl_app lit51 fr rfl rfl rfl rfl rfl rfl rfl rfl hy hc S ?_
              intro w A17 c18 S
              have S : Sat w0 _ [ownA .i64 3 A17 c18 (l4 ++ [(IntKind.wrap .i64 (Int.tmod (List.getD l0 (Int.toNat x6) 0) (16 : Int)))]), arrA Value.bool 52 16 g1 l5] := S.mask [true, false, true]
              intro a fr
              refine wl_run orc_ok 1 rfl fr fun a fr => ?_
              refine wpList_nil ?_
              exact ⟨A17, c18, (l4 ++ [(IntKind.wrap .i64 (Int.tmod (List.getD l0 (Int.toNat x6) 0) (16 : Int)))]), fr.sub ⟨rfl, rfl, rfl, rfl, rfl, trivial⟩, S, h⟩
            · refine wp_skip ?_
              exact ⟨A2, c3, l4, fr.sub ⟨rfl, rfl, rfl, rfl, rfl, trivial⟩, S, h⟩
          · rintro a w ⟨A12, c13, l14, fr, S, h⟩
            rw [SectorsOrder.j1] at h
            refine wp_region_lit ?_
            refine wl_run orc_ok 2 rfl fr fun a fr => ?_
            obtain ⟨hc, h⟩ := ifs h
            refine wl_ld orc_ok (Rk.at r0 S) fr rfl rfl rfl rfl rfl rfl rfl rfl rfl rfl rfl rfl rfl rfl rfl rfl hc fun a fr => ?_
            refine wl_run orc_ok 1 rfl fr fun a fr => ?_
            obtain ⟨hc, h⟩ := ifs h
            have hp53 := hc
            refine wl_pa orc_ok fr rfl rfl rfl rfl rfl rfl rfl rfl hc fun a fr => ?_
            have S : Sat w0 _ [arrA Value.bool 52 16 g1 l5, ownA .i64 3 A12 c13 l14] := S.frontAt 1 rfl
            refine wl_sta orc_ok true fr rfl rfl rfl rfl rfl rfl rfl rfl S hp53 ?_
            intro w S
            refine wpList_nil ?_
            refine blk_n ?_
            refine then_n ?_
            refine wp_region_lit ?_
            refine wl_run orc_ok 3 rfl fr fun a fr => ?_
            refine wpList_nil ?_
            have S : Sat w0 _ [ownA .i64 3 A12 c13 l14, arrA Value.bool 52 16 g1 (List.set l5 (Int.toNat (Int.tmod (List.getD l0 (Int.toNat x6) 0) (16 : Int))) true)] := S.frontAt 1 rfl
            exact ⟨A12, c13, l14, (List.set l5 (Int.toNat (Int.tmod (List.getD l0 (Int.toNat x6) 0) (16 : Int))) true), (IntKind.wrap .i64 (x6 + (1 : Int))), fr.sub ⟨rfl, rfl, rfl, rfl, rfl, trivial⟩, S, h⟩
        · refine wp_exit ?_
          refine then_e ?_
          refine then_e ?_
          refine blk_y ?_
          refine then_n ?_
          refine wp_seq ?_
          refine wp_region_lit ?_
          have hc : (1 ≤ (16 : Int) ∧ (16 : Int) ≤ (4096 : Int)) := by decide
          refine wl_call fr rfl rfl rfl rfl en18 (disk_new S hc) ?_
          rintro _ w ⟨g19, rfl, S⟩
          refine ⟨_, rfl, rfl, fun a fr => ?_⟩
          refine wl_run orc_ok 5 rfl fr fun a fr => ?_
          refine wpList_nil ?_
          refine then_n ?_
          refine wp_seq ?_
          refine wp_region_lit ?_
          have hc : (1 ≤ (16 : Int) ∧ (16 : Int) ≤ (4096 : Int)) := by decide
          refine wl_call fr rfl rfl rfl rfl en18 (disk_new S hc) ?_
          rintro _ w ⟨g20, rfl, S⟩
          refine ⟨_, rfl, rfl, fun a fr => ?_⟩
          refine wl_run orc_ok 5 rfl fr fun a fr => ?_
          refine wpList_nil ?_
          refine then_n ?_
          refine wp_seq ?_
          refine wp_seq ?_
          refine wp_region_lit ?_
          refine wl_run orc_ok 6 rfl fr fun a fr => ?_
          refine wpList_nil ?_
          refine then_n ?_
          refine cw_f fr rfl ?_
          refine wp_skip ?_
          refine then_n ?_
          refine wp_seq ?_
          refine wp_seq ?_
          refine wp_region_lit ?_
          refine wl_run orc_ok 1 rfl fr fun a fr => ?_
          refine wpList_nil ?_
          refine then_n ?_
          refine wp_block ?_
          refine cw_loop (fun k2 a w => ∃ D21 : Dk, ∃ D22 : Dk, ∃ x23 : Int, Fr 151 a [(1, (.int .u8 a1)), (5, (.slice A2 (List.length l4) c3)), (6, (.pointer (some ⟨g1, 0, none⟩))), (8, (.pointer (some ⟨g19, 0, none⟩))), (10, (.pointer (some ⟨g20, 0, none⟩))), (12, (.int .i64 x23))] ∧ Sat w0 w [diskA g20 D21, diskA g19 D22, ownA .i64 3 A2 c3 l4, arrA Value.bool 52 16 g1 l5] ∧ (SectorsOrder.l2 k2 l4 a1 l5 D21 D22 x23) = some r) k1 ⟨(Disk.blank (Int.toNat (16 : Int))), (Disk.blank (Int.toNat (16 : Int))), (0 : Int), fr.sub ⟨rfl, rfl, rfl, rfl, rfl, rfl, trivial⟩, S, h⟩ ?_ ?_
          · rintro a w ⟨D21, D22, x23, -, -, h⟩
            simp only [SectorsOrder.l2] at h
            cases h
          · rintro k2 a w ⟨D21, D22, x23, fr, S, h⟩
            rw [SectorsOrder.l2] at h
            refine wp_seq ?_
            refine wp_seq ?_
            refine wp_region_lit ?_
            refine wl_run orc_ok 4 rfl fr fun a fr => ?_
            refine wpList_nil ?_
            refine then_n ?_
            refine cw_if fr rfl h (fun h => ?_) (fun h => ?_)
            · refine wp_skip ?_
              refine then_n ?_
              refine wp_seq ?_
              refine wp_block ?_
              refine wp_seq ?_
              refine wp_region_lit ?_
              refine wl_run orc_ok 7 rfl fr fun a fr => ?_
              obtain ⟨hc, h⟩ := ifs h
              refine wl_pv orc_ok fr rfl rfl rfl (po_rem rfl rfl rfl hc) fun a fr => ?_
              obtain ⟨hc, h⟩ := ifs h
              refine wl_ld orc_ok (Sat.ownAt S 2 rfl) fr rfl rfl rfl rfl rfl rfl rfl rfl rfl rfl rfl rfl rfl rfl rfl rfl hc fun a fr => ?_
              refine wl_run orc_ok 1 rfl fr fun a fr => ?_
              obtain ⟨y27, hx, h⟩ := lt_h h
              have fr := fr.spell (d := 13) rfl (congrArg (Value.int .i64) hx)
              refine wpList_nil ?_
              refine then_n ?_
              refine wp_seq ?_
              refine wp_region_sl [.one (0, true, some 84), .one (1, true, some 85), .one (2, true, some 86), .one (3, true, some 87), .one (4, true, some 88), .one (5, true, some 89), .one (6, true, some 90), .one (7, true, some 91), .one (8, true, some 92), .one (9, true, some 93), .one (10, true, some 94), .one (11, false, some 95), .one (12, false, some 96), .one (13, true, some 97), .one (14, true, some 98), .one (15, true, some 99), .one (16, true, some 100), .one (17, true, some 101), .one (18, true, some 102), .one (19, true, some 103), .one (20, false, some 104), .one (21, false, some 105), .one (22, true, some 106), .one (23, true, some 107)]
                [.one ⟨true, some 84, (Go.Op.move (Go.Operand.tmp 8)), 24, none⟩,
                  .one ⟨true, some 85, (Go.Op.move (Go.Operand.tmp 5)), 51, none⟩,
                  .one ⟨true, some 86, (Go.Op.move (Go.Operand.tmp 12)), 3, none⟩,
                  .one ⟨true, some 87, (Go.Op.indexAddr 51 (Go.Operand.tmp 85) (Go.Operand.tmp 86)), 0, none⟩,
                  .one ⟨true, some 88, (Go.Op.load 3 (Go.Operand.tmp 87)), 3, none⟩,
                  .one ⟨true, some 89, (Go.Op.move (Go.Operand.tmp 5)), 51, none⟩,
                  .one ⟨true, some 90, (Go.Op.move (Go.Operand.tmp 12)), 3, none⟩,
                  .one ⟨true, some 91, (Go.Op.indexAddr 51 (Go.Operand.tmp 89) (Go.Operand.tmp 90)), 0, none⟩,
                  .one ⟨true, some 92, (Go.Op.load 3 (Go.Operand.tmp 91)), 3, none⟩,
                  .one ⟨true, some 93, (Go.Op.binOp Go.BinOp.add 3 (Go.Operand.const (Go.Value.int Go.IntKind.i64 1)) (Go.Operand.tmp 92) 3), 3, none⟩,
                  .one ⟨true, some 94, (Go.Op.convert 3 5 (Go.Operand.tmp 93)), 5, none⟩,
                  .one ⟨false, some 95, (Go.Op.buildSlice 22 1 #[(0, (Go.Operand.tmp 94))]), 22, none⟩,
                  .one ⟨false, some 96, (Go.Op.call { callee := (Go.Callee.value (Go.Operand.func 12)), args := #[(Go.Operand.tmp 84), (Go.Operand.tmp 88), (Go.Operand.tmp 95)], argTypes := #[24, 3, 22] }), 30, none⟩,
                  .one ⟨true, some 97, (Go.Op.binOp Go.BinOp.neq 30 (Go.Operand.tmp 96) (Go.Operand.const (Go.Value.int Go.IntKind.i64 0)) 30), 4, none⟩,
                  .one ⟨true, some 98, (Go.Op.move (Go.Operand.tmp 97)), 4, none⟩,
                  .one ⟨true, some 99, (Go.Op.move (Go.Operand.tmp 10)), 24, some (98, false)⟩,
                  .one ⟨true, some 100, (Go.Op.move (Go.Operand.tmp 13)), 3, some (98, false)⟩,
                  .one ⟨true, some 101, (Go.Op.move (Go.Operand.tmp 13)), 3, some (98, false)⟩,
                  .one ⟨true, some 102, (Go.Op.binOp Go.BinOp.add 3 (Go.Operand.const (Go.Value.int Go.IntKind.i64 1)) (Go.Operand.tmp 101) 3), 3, some (98, false)⟩,
                  .one ⟨true, some 103, (Go.Op.convert 3 5 (Go.Operand.tmp 102)), 5, some (98, false)⟩,
                  .one ⟨false, some 104, (Go.Op.buildSlice 22 1 #[(0, (Go.Operand.tmp 103))]), 22, some (98, false)⟩,
                  .one ⟨false, some 105, (Go.Op.call { callee := (Go.Callee.value (Go.Operand.func 12)), args := #[(Go.Operand.tmp 99), (Go.Operand.tmp 100), (Go.Operand.tmp 104)], argTypes := #[24, 3, 22] }), 30, some (98, false)⟩,
                  .one ⟨true, some 106, (Go.Op.binOp Go.BinOp.neq 30 (Go.Operand.tmp 105) (Go.Operand.const (Go.Value.int Go.IntKind.i64 0)) 30), 4, some (98, false)⟩,
                  .one ⟨true, some 107, (Go.Op.pick (Go.Operand.tmp 98) (Go.Operand.const (Go.Value.bool true)) (Go.Operand.tmp 106)), 4, none⟩]
                (fun w => Sat w0 w [ownA .i64 3 A2 c3 l4, arrA Value.bool 52 16 g1 l5]) rfl (by kernel_rfl) (by kernel_rfl) (S.drew.mask [false, false, true, true]) ?_
              have S := S.drew
              refine sl_run orc_ok 3 rfl fr fun a fr => ?_
              obtain ⟨hc, h⟩ := ifs h
              refine sl_ld orc_ok (fun _ S => Sat.ownAt S 0 rfl) fr rfl rfl rfl rfl rfl rfl rfl rfl rfl rfl rfl rfl rfl rfl rfl rfl rfl rfl hc (Sat.mask S [false, false, true, true]) fun a fr => ?_
              refine sl_run orc_ok 2 rfl fr fun a fr => ?_
              obtain ⟨hc, h⟩ := ifs h
              refine sl_ld orc_ok (fun _ S => Sat.ownAt S 0 rfl) fr rfl rfl rfl rfl rfl rfl rfl rfl rfl rfl rfl rfl rfl rfl rfl rfl rfl rfl hc (Sat.mask S [false, false, true, true]) fun a fr => ?_
              refine sl_run orc_ok 2 rfl fr fun a fr => ?_
              refine sl_lit (xs := [(IntKind.wrap .u8 (IntKind.wrap .i64 ((1 : Int) + (List.getD l4 (Int.toNat x23) 0))))]) orc_ok lit22 fr rfl rfl rfl rfl rfl ⟨rfl, rfl, trivial⟩ rfl rfl S ?_
              intro w A28 c29 S
              refine ⟨(Sat.mask S [false, false, false, true, true]), fun a fr => ?_⟩
              have S : Sat w0 _ [diskA g19 D22, ownA .u8 5 A28 c29 [(IntKind.wrap .u8 (IntKind.wrap .i64 ((1 : Int) + (List.getD l4 (Int.toNat x23) 0))))], diskA g20 D21, ownA .i64 3 A2 c3 l4, arrA Value.bool 52 16 g1 l5] := S.frontAt 2 rfl
              obtain ⟨hc, h⟩ := ifs h
              refine sl_call fr rfl rfl rfl rfl rfl en12 (disk_write S (List.getD l4 (Int.toNat x23) 0) (Sat.ownAt S 1 rfl) hc) ?_
              rintro _ w ⟨rfl, hv, S⟩
              refine ⟨_, rfl, hv, (Sat.mask S [false, false, false, true, true]), fun a fr => ?_⟩
              obtain ⟨D30, hx, h⟩ := lt_h h
              rw [hx] at S
              refine sl_run orc_ok 2 rfl fr fun a fr => ?_
              refine sl_split 98 fr rfl h (fun fr h => ?_) (fun fr h => ?_)
              · cases h
              · refine sl_run orc_ok 5 rfl fr fun a fr => ?_
                refine sl_lit (xs := [(IntKind.wrap .u8 (IntKind.wrap .i64 ((1 : Int) + y27)))]) orc_ok lit22 fr rfl rfl rfl rfl rfl ⟨rfl, rfl, trivial⟩ rfl rfl S ?_
                intro w A31 c32 S
                refine ⟨(Sat.mask S [false, false, false, false, true, true]), fun a fr => ?_⟩
                have S : Sat w0 _ [diskA g20 D21, ownA .u8 5 A31 c32 [(IntKind.wrap .u8 (IntKind.wrap .i64 ((1 : Int) + y27)))], diskA g19 D30, ownA .u8 5 A28 c29 [(IntKind.wrap .u8 (IntKind.wrap .i64 ((1 : Int) + (List.getD l4 (Int.toNat x23) 0))))], ownA .i64 3 A2 c3 l4, arrA Value.bool 52 16 g1 l5] := S.frontAt 3 rfl
                obtain ⟨hc, h⟩ := ifs h
                refine sl_call fr rfl rfl rfl rfl rfl en12 (disk_write S y27 (Sat.ownAt S 1 rfl) hc) ?_
                rintro _ w ⟨rfl, hv, S⟩
                refine ⟨_, rfl, hv, (Sat.mask S [false, false, false, false, true, true]), fun a fr => ?_⟩
                obtain ⟨D33, hx, h⟩ := lt_h h
                rw [hx] at S
                refine sl_run orc_ok 2 rfl fr fun a fr => ?_
                refine sl_end ?_
                refine then_n ?_
                refine cw_if fr rfl h (fun h => ?_) (fun h => ?_)
                · cases h
                · refine wp_skip ?_
                  refine blk_n ?_
                  refine then_n ?_
                  refine wp_region_lit ?_
                  refine wl_run orc_ok 3 rfl fr fun a fr => ?_
                  refine wpList_nil ?_
                  have S : Sat w0 _ [diskA g20 D33, diskA g19 D30, ownA .i64 3 A2 c3 l4, arrA Value.bool 52 16 g1 l5] := S.mask [true, false, true, false, true, true]
                  have S : Sat w0 _ [arrA Value.bool 52 16 g1 l5, diskA g20 D33, diskA g19 D30, ownA .i64 3 A2 c3 l4] := S.frontAt 3 rfl
                  have S : Sat w0 _ [ownA .i64 3 A2 c3 l4, arrA Value.bool 52 16 g1 l5, diskA g20 D33, diskA g19 D30] := S.frontAt 3 rfl
                  have S : Sat w0 _ [diskA g19 D30, ownA .i64 3 A2 c3 l4, arrA Value.bool 52 16 g1 l5, diskA g20 D33] := S.frontAt 3 rfl
                  have S : Sat w0 _ [diskA g20 D33, diskA g19 D30, ownA .i64 3 A2 c3 l4, arrA Value.bool 52 16 g1 l5] := S.frontAt 3 rfl
                  exact ⟨D33, D30, (IntKind.wrap .i64 (x23 + (1 : Int))), fr.sub ⟨rfl, rfl, rfl, rfl, rfl, rfl, trivial⟩, S, h⟩
            · refine wp_exit ?_
              refine then_e ?_
              refine then_e ?_
              refine blk_y ?_
              refine then_n ?_
              refine wp_seq ?_
              refine wp_region_lit ?_
              refine wl_run orc_ok 1 rfl fr fun a fr => ?_
              have S : Sat w0 _ [diskA g19 D22, diskA g20 D21, ownA .i64 3 A2 c3 l4, arrA Value.bool 52 16 g1 l5] := S.frontAt 1 rfl
              obtain ⟨hc, h⟩ := ifs h
              refine wl_call fr rfl rfl rfl rfl en11 (disk_fail S rfl rfl hc) ?_
              rintro _ w ⟨g34, rfl, S⟩
              refine ⟨_, rfl, rfl, fun a fr => ?_⟩
              obtain ⟨D35, hx, h⟩ := lt_h h
              rw [hx] at S
              refine wl_run orc_ok 5 rfl fr fun a fr => ?_
              refine wpList_nil ?_
              refine then_n ?_
              refine wp_seq ?_
              refine wp_seq ?_
              refine wp_region_lit ?_
              refine wl_run orc_ok 4 rfl fr fun a fr => ?_
              have S : Sat w0 _ [diskA g19 D22, diskA g34 D35, diskA g20 D21, ownA .i64 3 A2 c3 l4, arrA Value.bool 52 16 g1 l5] := S.frontAt 1 rfl
              refine wl_call fr rfl rfl rfl rfl en15 (disk_waits S) ?_
              rintro _ w ⟨rfl, hv, hw⟩
              subst hw
              refine ⟨_, rfl, hv, fun a fr => ?_⟩
              refine wl_run orc_ok 4 rfl fr fun a fr => ?_
              refine wpList_nil ?_
              refine then_n ?_
              refine cw_if fr rfl h (fun h => ?_) (fun h => ?_)
              · cases h
              · refine wp_skip ?_
                refine then_n ?_
                refine wp_seq ?_
                refine wp_seq ?_
                refine wp_region_lit ?_
                refine wl_run orc_ok 1 rfl fr fun a fr => ?_
                refine wpList_nil ?_
                refine then_n ?_
                refine wp_block ?_
                have S : Sat w0 _ [diskA g19 D22, diskA g34 D35, diskA g20 D21, arrA Value.bool 52 16 g1 l5] := S.mask [true, true, true, false, true]
                have S : Sat w0 _ [arrA Value.bool 52 16 g1 l5, diskA g19 D22, diskA g34 D35, diskA g20 D21] := S.frontAt 3 rfl
                have S : Sat w0 _ [diskA g20 D21, arrA Value.bool 52 16 g1 l5, diskA g19 D22, diskA g34 D35] := S.frontAt 3 rfl
                have S : Sat w0 _ [diskA g34 D35, diskA g20 D21, arrA Value.bool 52 16 g1 l5, diskA g19 D22] := S.frontAt 3 rfl
                have S : Sat w0 _ [diskA g19 D22, diskA g34 D35, diskA g20 D21, arrA Value.bool 52 16 g1 l5] := S.frontAt 3 rfl
                refine cw_loop (fun k3 a w => ∃ x36 : Int, Fr 151 a [(6, (.pointer (some ⟨g1, 0, none⟩))), (8, (.pointer (some ⟨g19, 0, none⟩))), (10, (.pointer (some ⟨g20, 0, none⟩))), (14, (.pointer (some ⟨g34, 0, none⟩))), (15, (.int .i64 x36))] ∧ Sat w0 w [diskA g19 D22, diskA g34 D35, diskA g20 D21, arrA Value.bool 52 16 g1 l5] ∧ (SectorsOrder.l3 k3 l5 D35 D22 D21 x36) = some r) k2 ⟨(0 : Int), fr.sub ⟨rfl, rfl, rfl, rfl, rfl, trivial⟩, S, h⟩ ?_ ?_
                · rintro a w ⟨x36, -, -, h⟩
                  simp only [SectorsOrder.l3] at h
                  cases h
                · rintro k3 a w ⟨x36, fr, S, h⟩
                  rw [SectorsOrder.l3] at h
                  refine wp_seq ?_
                  refine wp_seq ?_
                  refine wp_region_lit ?_
                  refine wl_run orc_ok 2 rfl fr fun a fr => ?_
                  refine wpList_nil ?_
                  refine then_n ?_
                  refine cw_if fr rfl h (fun h => ?_) (fun h => ?_)
                  · refine wp_skip ?_
                    refine then_n ?_
                    refine wp_seq ?_
                    refine wp_block ?_
                    refine wp_seq ?_
                    refine wp_region_lit ?_
                    refine wl_run orc_ok 1 rfl fr fun a fr => ?_
                    refine wpList_nil ?_
                    refine then_n ?_
                    refine cw_cut (fun a w => ∃ x38 : Int, Fr 151 a [(6, (.pointer (some ⟨g1, 0, none⟩))), (8, (.pointer (some ⟨g19, 0, none⟩))), (10, (.pointer (some ⟨g20, 0, none⟩))), (14, (.pointer (some ⟨g34, 0, none⟩))), (15, (.int .i64 x36)), (16, (.int .u8 x38))] ∧ Sat w0 w [diskA g19 D22, diskA g34 D35, diskA g20 D21, arrA Value.bool 52 16 g1 l5] ∧ (SectorsOrder.j2 (SectorsOrder.l3 k3 l5 D35 D22 D21) x36 D35 D22 D21 x38) = some r) ?_ ?_
                    · refine wp_seq ?_
                      refine wp_region_lit ?_
                      refine wl_run orc_ok 1 rfl fr fun a fr => ?_
                      obtain ⟨hc, h⟩ := ifs h
                      refine wl_lda orc_ok false (Sat.arrAt S 3 rfl) fr rfl rfl rfl rfl rfl rfl rfl rfl rfl rfl rfl rfl rfl rfl rfl rfl hc fun a fr => ?_
                      refine wpList_nil ?_
                      refine then_n ?_
                      refine cw_if fr rfl h (fun h => ?_) (fun h => ?_)
                      · refine wp_region_lit ?_
                        refine wl_run orc_ok 4 rfl fr fun a fr => ?_
                        obtain ⟨y39, hx, h⟩ := lt_h h
                        have fr := fr.spell (d := 16) rfl (congrArg (Value.int .u8) hx)
                        refine wpList_nil ?_
                        exact ⟨y39, fr.sub ⟨rfl, rfl, rfl, rfl, rfl, rfl, trivial⟩, S, h⟩
                      · refine wp_skip ?_
                        exact ⟨(0 : Int), fr.sub ⟨rfl, rfl, rfl, rfl, rfl, rfl, trivial⟩, S, h⟩
                    · rintro a w ⟨x38, fr, S, h⟩
                      rw [SectorsOrder.j2] at h
                      refine wp_seq ?_
                      refine wp_region_lit ?_
                      refine wl_run orc_ok 2 rfl fr fun a fr => ?_
                      have S : Sat w0 _ [diskA g34 D35, diskA g19 D22, diskA g20 D21, arrA Value.bool 52 16 g1 l5] := S.frontAt 1 rfl
                      obtain ⟨hc, h⟩ := ifs h
                      refine wl_call fr rfl rfl rfl rfl en20 (disk_first S hc) ?_
                      rintro _ w ⟨rfl, hv, S⟩
                      refine ⟨_, rfl, hv, fun a fr => ?_⟩
                      refine wl_run orc_ok 3 rfl fr fun a fr => ?_
                      refine wl_split 137 fr rfl h (fun fr h => ?_) (fun fr h => ?_)
                      · cases h
                      · refine wl_run orc_ok 2 rfl fr fun a fr => ?_
                        have S : Sat w0 _ [diskA g19 D22, diskA g34 D35, diskA g20 D21, arrA Value.bool 52 16 g1 l5] := S.frontAt 1 rfl
                        obtain ⟨hc, h⟩ := ifs h
                        refine wl_call fr rfl rfl rfl rfl en20 (disk_first S hc) ?_
                        rintro _ w ⟨rfl, hv, S⟩
                        refine ⟨_, rfl, hv, fun a fr => ?_⟩
                        refine wl_run orc_ok 4 rfl fr fun a fr => ?_
                        refine wl_split 144 fr rfl h (fun fr h => ?_) (fun fr h => ?_)
                        · cases h
                        · refine wl_run orc_ok 2 rfl fr fun a fr => ?_
                          have S : Sat w0 _ [diskA g20 D21, diskA g19 D22, diskA g34 D35, arrA Value.bool 52 16 g1 l5] := S.frontAt 2 rfl
                          obtain ⟨hc, h⟩ := ifs h
                          refine wl_call fr rfl rfl rfl rfl en20 (disk_first S hc) ?_
                          rintro _ w ⟨rfl, hv, S⟩
                          refine ⟨_, rfl, hv, fun a fr => ?_⟩
                          refine wl_run orc_ok 3 rfl fr fun a fr => ?_
                          refine wpList_nil ?_
                          refine then_n ?_
                          refine cw_if fr rfl h (fun h => ?_) (fun h => ?_)
                          · cases h
                          · refine wp_skip ?_
                            refine blk_n ?_
                            refine then_n ?_
                            refine wp_region_lit ?_
                            refine wl_run orc_ok 3 rfl fr fun a fr => ?_
                            refine wpList_nil ?_
                            have S : Sat w0 _ [arrA Value.bool 52 16 g1 l5, diskA g20 D21, diskA g19 D22, diskA g34 D35] := S.frontAt 3 rfl
                            have S : Sat w0 _ [diskA g20 D21, arrA Value.bool 52 16 g1 l5, diskA g19 D22, diskA g34 D35] := S.frontAt 1 rfl
                            have S : Sat w0 _ [diskA g34 D35, diskA g20 D21, arrA Value.bool 52 16 g1 l5, diskA g19 D22] := S.frontAt 3 rfl
                            have S : Sat w0 _ [diskA g19 D22, diskA g34 D35, diskA g20 D21, arrA Value.bool 52 16 g1 l5] := S.frontAt 3 rfl
                            exact ⟨(IntKind.wrap .i64 (x36 + (1 : Int))), fr.sub ⟨rfl, rfl, rfl, rfl, rfl, trivial⟩, S, h⟩
                  · refine wp_exit ?_
                    refine then_e ?_
                    refine then_e ?_
                    refine blk_y ?_
                    refine then_n ?_
                    refine wp_seq ?_
                    refine wp_region_lit ?_
                    refine wl_run orc_ok 1 rfl fr fun a fr => ?_
                    refine wpList_nil ?_
                    refine then_n ?_
                    refine wp_ret ?_
                    injection h with h
                    subst h
                    refine ret1 fr rfl rfl ?_
                    exact ⟨rfl, fr.vok (d := 4) rfl, S.mask []⟩
  exact (key w rfl (Sat.start w)).mono fun e w' ⟨h1, h2, h3⟩ => ⟨h1, h2, S.new h3.below⟩
end Go.Proofs.Ytkokdpnnmkphmaa.Pl
