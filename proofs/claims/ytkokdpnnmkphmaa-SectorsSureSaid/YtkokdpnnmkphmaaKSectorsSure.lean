/- Walks over the program's functions, printed by a program of this work (wip/tools/shal.py): each call does what the plain function says. -/
import Derived.Test.YtkokdpnnmkphmaaSe
import Derived.Test.YtkokdpnnmkphmaaSn
import Derived.Test.YtkokdpnnmkphmaaSo
import Derived.Test.YtkokdpnnmkphmaaDSectorsSure
namespace Go.Proofs.Ytkokdpnnmkphmaa.Pl
open Go Go.RowKit Sx Base Own Disk Bytes

def orc : Orc := ⟨[(3, .int .i64), (5, .int .u8), (22, .slice 5), (24, .pointer 28), (39, .slice 43), (42, .int .u64), (43, .int .u16)],
  [(5, 1), (43, 1)]⟩
theorem orc_ok : orc.Ok Try.prog := ⟨⟨Try.underlying3, Try.underlying5, Try.underlying22, Try.underlying24, Try.underlying39, Try.underlying42, Try.underlying43, trivial⟩, ⟨by kernel_rfl, by kernel_rfl, trivial⟩⟩
theorem en10 : Enters Try.prog 10 := fun _ _ => by kernel_rfl
theorem en11 : Enters Try.prog 11 := fun _ _ => by kernel_rfl
theorem en13 : Enters Try.prog 13 := fun _ _ => by kernel_rfl
theorem en15 : Enters Try.prog 15 := fun _ _ => by kernel_rfl
theorem en16 : Enters Try.prog 16 := fun _ _ => by kernel_rfl
theorem en17 : Enters Try.prog 17 := fun _ _ => by kernel_rfl
set_option maxRecDepth 100000 in
set_option maxHeartbeats 4000000 in
theorem SectorsSure.walk (k : Nat) (A0 : Option Addr) (c0 : Nat) (l0 : List Int) (a1 : Int) (a2 : Int) {w0 w : World} {R : List Asn} (r0 : Rk .u16 w A0 l0) (m0 : l0.length ≤ c0 ∧ c0 ≤ maxLen) (v1 : (Lit.int .u8 a1).wf = true) (v2 : (Lit.int .u64 a2).wf = true) (S : Sat w0 w R) {r : Bool} (h : SectorsSure.f k l0 a1 a2 = some r) :
    Calls Try.prog 4 #[(.slice A0 (List.length l0) c0), (.int .u8 a1), (.int .u64 a2)] w fun e w' => e = .returned (.bool r) ∧ vok (.bool r) = true ∧ Sat w0 w' R := by
  have key : ∀ w0 : World, w0 = w → Sat w0 w [] → Calls Try.prog 4 #[(.slice A0 (List.length l0) c0), (.int .u8 a1), (.int .u64 a2)] w fun e w' => e = .returned (.bool r) ∧ vok (.bool r) = true ∧ Sat w0 w' [] := by
    clear S
    intro w0 hw S
    rw [← hw] at r0
    clear hw
    unfold SectorsSure.f at h
    refine calls_start (N := 163) [(.slice A0 (List.length l0) c0), (.int .u8 a1), (.int .u64 a2)] Try.func4 rfl rfl rfl (vok_c (vok_sl m0) (vok_c v1 (vok_c v2 rfl))) fun a fr => ?_
    refine wp_seq ?_
    refine wp_region_lit ?_
    refine wl_run orc_ok 1 rfl fr fun a fr => ?_
    refine wpList_nil ?_
    refine then_n ?_
    refine wp_seq ?_
    refine wp_seq ?_
    refine wp_region_lit ?_
    refine wl_call fr rfl rfl rfl rfl en16 (alive04 S) ?_
    rintro _ w ⟨rfl, S⟩
    refine ⟨_, rfl, rfl, fun a fr => ?_⟩
    refine wl_run orc_ok 6 rfl fr fun a fr => ?_
    refine wpList_nil ?_
    refine then_n ?_
    refine cw_if fr rfl h (fun h => ?_) (fun h => ?_)
    · refine wp_seq ?_
      refine wp_region_lit ?_
      refine wl_call fr rfl rfl rfl rfl en16 (alive04 S) ?_
      rintro _ w ⟨rfl, S⟩
      refine ⟨_, rfl, rfl, fun a fr => ?_⟩
      refine wl_run orc_ok 1 rfl fr fun a fr => ?_
      refine wpList_nil ?_
      refine then_n ?_
      refine wp_ret ?_
      refine then_r ?_
      injection h with h
      subst h
      refine ret1 fr rfl rfl ?_
      exact ⟨rfl, fr.vok (d := 6) rfl, S.mask []⟩
    · refine wp_skip ?_
      refine then_n ?_
      refine wp_seq ?_
      refine wp_region_lit ?_
      refine wl_run orc_ok 1 rfl fr fun a fr => ?_
      refine wpList_nil ?_
      refine then_n ?_
      refine cw_cut (fun a w => ∃ x1 : Int, Fr 163 a [(0, (.slice A0 (List.length l0) c0)), (2, (.int .u64 a2)), (7, (.int .i64 x1))] ∧ Sat w0 w [] ∧ (SectorsSure.j1 k l0 a2 x1) = some r) ?_ ?_
      · refine wp_seq ?_
        refine wp_region_lit ?_
        refine wl_run orc_ok 3 rfl fr fun a fr => ?_
        refine wpList_nil ?_
        refine then_n ?_
        refine cw_if fr rfl h (fun h => ?_) (fun h => ?_)
        · refine wp_region_lit ?_
          refine wl_run orc_ok 5 rfl fr fun a fr => ?_
          obtain ⟨hc, h⟩ := ifs h
          refine wl_pv orc_ok fr rfl rfl rfl (po_rem rfl rfl rfl hc) fun a fr => ?_
          refine wl_run orc_ok 1 rfl fr fun a fr => ?_
          obtain ⟨y19, hx, h⟩ := lt_h h
          have fr := fr.spell (d := 7) rfl (congrArg (Value.int .i64) hx)
          refine wpList_nil ?_
          exact ⟨y19, fr.sub ⟨rfl, rfl, rfl, trivial⟩, S, h⟩
        · refine wp_skip ?_
          exact ⟨(0 : Int), fr.sub ⟨rfl, rfl, rfl, trivial⟩, S, h⟩
      · rintro a w ⟨x1, fr, S, h⟩
        rw [SectorsSure.j1] at h
        refine wp_seq ?_
        refine wp_region_lit ?_
        refine wl_run orc_ok 2 rfl fr fun a fr => ?_
        obtain ⟨hc, h⟩ := ifs h
        refine wl_call fr rfl rfl rfl rfl en17 (disk_written S x1 (Rk.at r0 S) hc) ?_
        rintro _ w ⟨g2, rfl, S⟩
        refine ⟨_, rfl, rfl, fun a fr => ?_⟩
        obtain ⟨D3, hx, h⟩ := lt_h h
        rw [hx] at S
        refine wl_run orc_ok 1 rfl fr fun a fr => ?_
        refine wpList_nil ?_
        refine then_n ?_
        refine cw_cut (fun a w => ∃ D4 : Dk, Fr 163 a [(0, (.slice A0 (List.length l0) c0)), (2, (.int .u64 a2)), (7, (.int .i64 x1)), (8, (.pointer (some ⟨g2, 0, none⟩)))] ∧ Sat w0 w [diskA g2 D4] ∧ (SectorsSure.j2 k a2 l0 x1 D4) = some r) ?_ ?_
        · refine wp_seq ?_
          refine wp_region_lit ?_
          refine wl_run orc_ok 8 rfl fr fun a fr => ?_
          refine wl_split 44 fr rfl h (fun fr h => ?_) (fun fr h => ?_)
          · refine wl_run orc_ok 1 rfl fr fun a fr => ?_
            refine wl_call fr rfl rfl rfl rfl en13 (disk_sync S) ?_
            rintro _ w ⟨rfl, S⟩
            refine ⟨_, rfl, rfl, fun a fr => ?_⟩
            refine wl_run orc_ok 3 rfl fr fun a fr => ?_
            refine wpList_nil ?_
            refine then_n ?_
            refine cw_f fr rfl ?_
            refine wp_skip ?_
            exact ⟨(Dk.sync D3), fr.sub ⟨rfl, rfl, rfl, rfl, trivial⟩, S, h⟩
          · refine wl_run orc_ok 5 rfl fr fun a fr => ?_
            refine wpList_nil ?_
            refine then_n ?_
            refine cw_f fr rfl ?_
            refine wp_skip ?_
            exact ⟨D3, fr.sub ⟨rfl, rfl, rfl, rfl, trivial⟩, S, h⟩
        · rintro a w ⟨D4, fr, S, h⟩
          rw [SectorsSure.j2] at h
          refine wp_seq ?_
          refine wp_region_lit ?_
          refine wl_run orc_ok 2 rfl fr fun a fr => ?_
          obtain ⟨hc, h⟩ := ifs h
          refine wl_call fr rfl rfl rfl rfl en11 (disk_fail S (fr.int (d := 52) rfl) rfl hc) ?_
          rintro _ w ⟨g5, rfl, S⟩
          refine ⟨_, rfl, rfl, fun a fr => ?_⟩
          obtain ⟨D6, hx, h⟩ := lt_h h
          rw [hx] at S
          refine wl_run orc_ok 5 rfl fr fun a fr => ?_
          refine wpList_nil ?_
          refine then_n ?_
          refine wp_seq ?_
          refine wp_seq ?_
          refine wp_region_lit ?_
          refine wl_run orc_ok 4 rfl fr fun a fr => ?_
          refine wl_call fr rfl rfl rfl rfl en15 (disk_waits S) ?_
          rintro _ w ⟨rfl, hv, hw⟩
          subst hw
          refine ⟨_, rfl, hv, fun a fr => ?_⟩
          refine wl_run orc_ok 3 rfl fr fun a fr => ?_
          refine wl_split 63 fr rfl h (fun fr h => ?_) (fun fr h => ?_)
          · cases h
          · refine wl_run orc_ok 1 rfl fr fun a fr => ?_
            have S : Sat w0 _ [diskA g2 D4, diskA g5 D6] := S.frontAt 1 rfl
            refine wl_call fr rfl rfl rfl rfl en15 (disk_waits S) ?_
            rintro _ w ⟨rfl, hv, hw⟩
            subst hw
            refine ⟨_, rfl, hv, fun a fr => ?_⟩
            refine wl_run orc_ok 6 rfl fr fun a fr => ?_
            refine wpList_nil ?_
            refine then_n ?_
            refine cw_if fr rfl h (fun h => ?_) (fun h => ?_)
            · cases h
            · refine wp_skip ?_
              refine then_n ?_
              refine wp_seq ?_
              refine wp_seq ?_
              refine wp_region_lit ?_
              refine wl_run orc_ok 1 rfl fr fun a fr => ?_
              refine wpList_nil ?_
              refine then_n ?_
              refine wp_block ?_
              have S : Sat w0 _ [diskA g5 D6] := S.mask [false, true]
              refine cw_loop (fun k1 a w => ∃ x7 : Int, Fr 163 a [(0, (.slice A0 (List.length l0) c0)), (2, (.int .u64 a2)), (7, (.int .i64 x1)), (9, (.pointer (some ⟨g5, 0, none⟩))), (11, (.int .i64 x7))] ∧ Sat w0 w [diskA g5 D6] ∧ (SectorsSure.l1 k1 l0 x1 a2 D6 x7) = some r) k ⟨(0 : Int), fr.sub ⟨rfl, rfl, rfl, rfl, rfl, trivial⟩, S, h⟩ ?_ ?_
              · rintro a w ⟨x7, -, -, h⟩
                simp only [SectorsSure.l1] at h
                cases h
              · rintro k1 a w ⟨x7, fr, S, h⟩
                rw [SectorsSure.l1] at h
                refine wp_seq ?_
                refine wp_seq ?_
                refine wp_region_lit ?_
                refine wl_run orc_ok 2 rfl fr fun a fr => ?_
                refine wpList_nil ?_
                refine then_n ?_
                refine cw_if fr rfl h (fun h => ?_) (fun h => ?_)
                · refine wp_skip ?_
                  refine then_n ?_
                  refine cw_cut (fun a w => Fr 163 a [(0, (.slice A0 (List.length l0) c0)), (2, (.int .u64 a2)), (7, (.int .i64 x1)), (9, (.pointer (some ⟨g5, 0, none⟩))), (11, (.int .i64 x7))] ∧ Sat w0 w [diskA g5 D6] ∧ (SectorsSure.j3 (SectorsSure.l1 k1 l0 x1 a2 D6) x7) = some r) ?_ ?_
                  · refine wp_block ?_
                    refine wp_seq ?_
                    refine wp_region_lit ?_
                    refine wl_run orc_ok 1 rfl fr fun a fr => ?_
                    refine wpList_nil ?_
                    refine then_n ?_
                    refine wp_seq ?_
                    refine wp_seq ?_
                    refine wp_region_lit ?_
                    refine wl_run orc_ok 1 rfl fr fun a fr => ?_
                    refine wpList_nil ?_
                    refine then_n ?_
                    refine wp_block ?_
                    refine cw_loop (fun k2 a w => ∃ x9 : Int, ∃ x10 : Int, Fr 163 a [(0, (.slice A0 (List.length l0) c0)), (2, (.int .u64 a2)), (7, (.int .i64 x1)), (9, (.pointer (some ⟨g5, 0, none⟩))), (11, (.int .i64 x7)), (12, (.int .i64 x9)), (13, (.int .i64 x10))] ∧ Sat w0 w [diskA g5 D6] ∧ (SectorsSure.l2 k2 (SectorsSure.l1 k1 l0 x1 a2 D6) l0 x1 x7 a2 D6 x9 x10) = some r) k1 ⟨(-1 : Int), (0 : Int), fr.sub ⟨rfl, rfl, rfl, rfl, rfl, rfl, rfl, trivial⟩, S, h⟩ ?_ ?_
                    · rintro a w ⟨x9, x10, -, -, h⟩
                      simp only [SectorsSure.l2] at h
                      cases h
                    · rintro k2 a w ⟨x9, x10, fr, S, h⟩
                      rw [SectorsSure.l2] at h
                      refine wp_seq ?_
                      refine wp_seq ?_
                      refine wp_region_lit ?_
                      refine wl_run orc_ok 4 rfl fr fun a fr => ?_
                      refine wpList_nil ?_
                      refine then_n ?_
                      refine cw_if fr rfl h (fun h => ?_) (fun h => ?_)
                      · refine wp_skip ?_
                        refine then_n ?_
                        refine cw_cut (fun a w => ∃ x13 : Int, Fr 163 a [(0, (.slice A0 (List.length l0) c0)), (2, (.int .u64 a2)), (7, (.int .i64 x1)), (9, (.pointer (some ⟨g5, 0, none⟩))), (11, (.int .i64 x7)), (12, (.int .i64 x13)), (13, (.int .i64 x10))] ∧ Sat w0 w [diskA g5 D6] ∧ (SectorsSure.j4 (SectorsSure.l2 k2 (SectorsSure.l1 k1 l0 x1 a2 D6) l0 x1 x7 a2 D6) x10 x13) = some r) ?_ ?_
                        · refine wp_block ?_
                          refine cw_cut (fun a w => ∃ b14 : Bool, Fr 163 a [(0, (.slice A0 (List.length l0) c0)), (2, (.int .u64 a2)), (7, (.int .i64 x1)), (9, (.pointer (some ⟨g5, 0, none⟩))), (11, (.int .i64 x7)), (12, (.int .i64 x9)), (13, (.int .i64 x10)), (14, (.bool b14))] ∧ Sat w0 w [diskA g5 D6] ∧ (SectorsSure.j5 (SectorsSure.l2 k2 (SectorsSure.l1 k1 l0 x1 a2 D6) l0 x1 x7 a2 D6) x10 l0 x7 x9 b14) = some r) ?_ ?_
                          · refine wp_region_lit ?_
                            refine wl_run orc_ok 4 rfl fr fun a fr => ?_
                            refine wl_split 85 fr rfl h (fun fr h => ?_) (fun fr h => ?_)
                            · refine wl_run orc_ok 16 rfl fr fun a fr => ?_
                              refine wpList_nil ?_
                              exact ⟨true, fr.sub ⟨rfl, rfl, rfl, rfl, rfl, rfl, rfl, rfl, trivial⟩, S, h⟩
                            · refine wl_run orc_ok 5 rfl fr fun a fr => ?_
                              refine wl_split 90 fr rfl h (fun fr h => ?_) (fun fr h => ?_)
                              · refine wl_run orc_ok 5 rfl fr fun a fr => ?_
                                obtain ⟨hc, h⟩ := ifs h
                                refine wl_pv orc_ok fr rfl rfl rfl (po_shr rfl rfl rfl hc) fun a fr => ?_
                                refine wl_run orc_ok 5 rfl fr fun a fr => ?_
                                obtain ⟨y15, hx, h⟩ := lt_h h
                                have fr := fr.spell (d := 14) rfl (congrArg Value.bool hx)
                                refine wpList_nil ?_
                                exact ⟨y15, fr.sub ⟨rfl, rfl, rfl, rfl, rfl, rfl, rfl, rfl, trivial⟩, S, h⟩
                              · refine wl_run orc_ok 11 rfl fr fun a fr => ?_
                                refine wpList_nil ?_
                                exact ⟨false, fr.sub ⟨rfl, rfl, rfl, rfl, rfl, rfl, rfl, rfl, trivial⟩, S, h⟩
                          · rintro a w ⟨b14, fr, S, h⟩
                            rw [SectorsSure.j5] at h
                            refine wp_seq ?_
                            refine wp_region_lit ?_
                            refine wl_run orc_ok 2 rfl fr fun a fr => ?_
                            obtain ⟨hc, h⟩ := ifs h
                            refine wl_ld orc_ok (Rk.at r0 S) fr rfl rfl rfl rfl rfl rfl rfl rfl rfl rfl rfl rfl rfl rfl rfl rfl hc fun a fr => ?_
                            refine wl_run orc_ok 5 rfl fr fun a fr => ?_
                            refine wl_split 109 fr rfl h (fun fr h => ?_) (fun fr h => ?_)
                            · refine wl_run orc_ok 2 rfl fr fun a fr => ?_
                              refine wpList_nil ?_
                              refine then_n ?_
                              refine cw_if fr rfl h (fun h => ?_) (fun h => ?_)
                              · refine wp_region_lit ?_
                                refine wl_run orc_ok 2 rfl fr fun a fr => ?_
                                refine wpList_nil ?_
                                refine blk_n ?_
                                exact ⟨x10, fr.sub ⟨rfl, rfl, rfl, rfl, rfl, rfl, rfl, trivial⟩, S, h⟩
                              · refine wp_skip ?_
                                refine blk_n ?_
                                exact ⟨x9, fr.sub ⟨rfl, rfl, rfl, rfl, rfl, rfl, rfl, trivial⟩, S, h⟩
                            · refine wl_run orc_ok 2 rfl fr fun a fr => ?_
                              refine wpList_nil ?_
                              refine then_n ?_
                              refine cw_f fr rfl ?_
                              refine wp_skip ?_
                              refine blk_n ?_
                              exact ⟨x9, fr.sub ⟨rfl, rfl, rfl, rfl, rfl, rfl, rfl, trivial⟩, S, h⟩
                        · rintro a w ⟨x13, fr, S, h⟩
                          rw [SectorsSure.j4] at h
                          refine wp_region_lit ?_
                          refine wl_run orc_ok 3 rfl fr fun a fr => ?_
                          refine wpList_nil ?_
                          exact ⟨x13, (IntKind.wrap .i64 (x10 + (1 : Int))), fr.sub ⟨rfl, rfl, rfl, rfl, rfl, rfl, rfl, trivial⟩, S, h⟩
                      · refine wp_exit ?_
                        refine then_e ?_
                        refine then_e ?_
                        refine blk_y ?_
                        refine then_n ?_
                        refine wp_seq ?_
                        refine wp_region_lit ?_
                        refine wl_run orc_ok 2 rfl fr fun a fr => ?_
                        obtain ⟨hc, h⟩ := ifs h
                        refine wl_call fr rfl rfl rfl rfl en10 (disk_read S hc) ?_
                        rintro _ w ⟨A16, c17, rfl, hv, S⟩
                        refine ⟨_, rfl, hv, fun a fr => ?_⟩
                        obtain ⟨l18, hx, h⟩ := lt_h h
                        rw [hx] at S fr
                        refine wl_run orc_ok 5 rfl fr fun a fr => ?_
                        refine wpList_nil ?_
                        refine then_n ?_
                        refine wp_seq ?_
                        refine wp_seq ?_
                        refine wp_region_lit ?_
                        refine wl_run orc_ok 7 rfl fr fun a fr => ?_
                        refine wpList_nil ?_
                        refine then_n ?_
                        refine cw_if fr rfl h (fun h => ?_) (fun h => ?_)
                        · cases h
                        · refine wp_skip ?_
                          refine then_n ?_
                          refine wp_seq ?_
                          refine wp_region_sl [.one (0, true, some 126), .one (1, true, some 127), .one (2, true, some 128), .one (3, true, some 129), .one (4, true, some 130), .one (5, true, some 131), .one (6, true, some 132), .one (7, true, some 133), .one (8, true, some 134), .one (9, true, some 135), .one (10, true, some 136), .one (11, true, some 137), .one (12, true, some 138), .one (13, true, some 139), .one (14, true, some 140), .one (15, true, some 141), .one (16, true, some 142), .one (17, true, some 143), .one (18, true, some 144), .one (19, true, some 145), .one (20, true, some 146), .one (21, true, some 147), .one (22, true, some 148), .one (23, true, some 149), .one (24, true, some 150), .one (25, true, some 151), .one (26, true, some 152), .one (27, true, some 153), .one (28, true, some 154), .one (29, true, some 155), .one (30, true, some 156), .one (31, true, some 157), .one (32, true, some 158), .one (33, true, some 159), .one (34, true, some 160), .one (35, true, some 161), .one (36, true, some 162)]
                            [.one ⟨true, some 126, (Go.Op.move (Go.Operand.tmp 12)), 3, none⟩,
                  .one ⟨true, some 127, (Go.Op.binOp Go.BinOp.lss 3 (Go.Operand.tmp 126) (Go.Operand.const (Go.Value.int Go.IntKind.i64 0)) 3), 4, none⟩,
                  .one ⟨true, some 128, (Go.Op.move (Go.Operand.tmp 127)), 4, none⟩,
                  .one ⟨true, some 129, (Go.Op.move (Go.Operand.tmp 15)), 22, some (128, true)⟩,
                  .one ⟨true, some 130, (Go.Op.indexAddr 22 (Go.Operand.tmp 129) (Go.Operand.const (Go.Value.int Go.IntKind.i64 0))), 0, some (128, true)⟩,
                  .one ⟨true, some 131, (Go.Op.load 5 (Go.Operand.tmp 130)), 5, some (128, true)⟩,
                  .one ⟨true, some 132, (Go.Op.binOp Go.BinOp.neq 5 (Go.Operand.tmp 131) (Go.Operand.const (Go.Value.int Go.IntKind.u8 0)) 5), 4, some (128, true)⟩,
                  .one ⟨true, some 133, (Go.Op.move (Go.Operand.tmp 132)), 4, some (128, true)⟩,
                  .one ⟨true, some 134, (Go.Op.move (Go.Operand.tmp 15)), 22, some (133, false)⟩,
                  .one ⟨true, some 135, (Go.Op.indexAddr 22 (Go.Operand.tmp 134) (Go.Operand.const (Go.Value.int Go.IntKind.i64 1))), 0, some (133, false)⟩,
                  .one ⟨true, some 136, (Go.Op.load 5 (Go.Operand.tmp 135)), 5, some (133, false)⟩,
                  .one ⟨true, some 137, (Go.Op.binOp Go.BinOp.neq 5 (Go.Operand.tmp 136) (Go.Operand.const (Go.Value.int Go.IntKind.u8 0)) 5), 4, some (133, false)⟩,
                  .one ⟨true, some 138, (Go.Op.pick (Go.Operand.tmp 133) (Go.Operand.const (Go.Value.bool true)) (Go.Operand.tmp 137)), 4, some (128, true)⟩,
                  .one ⟨true, some 139, (Go.Op.pick (Go.Operand.tmp 128) (Go.Operand.tmp 138) (Go.Operand.const (Go.Value.bool false))), 4, none⟩,
                  .one ⟨true, some 140, (Go.Op.move (Go.Operand.tmp 139)), 4, none⟩,
                  .one ⟨true, some 141, (Go.Op.move (Go.Operand.tmp 12)), 3, some (140, false)⟩,
                  .one ⟨true, some 142, (Go.Op.binOp Go.BinOp.geq 3 (Go.Operand.tmp 141) (Go.Operand.const (Go.Value.int Go.IntKind.i64 0)) 3), 4, some (140, false)⟩,
                  .one ⟨true, some 143, (Go.Op.move (Go.Operand.tmp 142)), 4, some (140, false)⟩,
                  .one ⟨true, some 144, (Go.Op.move (Go.Operand.tmp 15)), 22, some (143, true)⟩,
                  .one ⟨true, some 145, (Go.Op.indexAddr 22 (Go.Operand.tmp 144) (Go.Operand.const (Go.Value.int Go.IntKind.i64 0))), 0, some (143, true)⟩,
                  .one ⟨true, some 146, (Go.Op.load 5 (Go.Operand.tmp 145)), 5, some (143, true)⟩,
                  .one ⟨true, some 147, (Go.Op.move (Go.Operand.tmp 12)), 3, some (143, true)⟩,
                  .one ⟨true, some 148, (Go.Op.convert 3 5 (Go.Operand.tmp 147)), 5, some (143, true)⟩,
                  .one ⟨true, some 149, (Go.Op.binOp Go.BinOp.neq 5 (Go.Operand.tmp 146) (Go.Operand.tmp 148) 5), 4, some (143, true)⟩,
                  .one ⟨true, some 150, (Go.Op.move (Go.Operand.tmp 149)), 4, some (143, true)⟩,
                  .one ⟨true, some 151, (Go.Op.move (Go.Operand.tmp 15)), 22, some (150, false)⟩,
                  .one ⟨true, some 152, (Go.Op.indexAddr 22 (Go.Operand.tmp 151) (Go.Operand.const (Go.Value.int Go.IntKind.i64 1))), 0, some (150, false)⟩,
                  .one ⟨true, some 153, (Go.Op.load 5 (Go.Operand.tmp 152)), 5, some (150, false)⟩,
                  .one ⟨true, some 154, (Go.Op.move (Go.Operand.tmp 0)), 39, some (150, false)⟩,
                  .one ⟨true, some 155, (Go.Op.move (Go.Operand.tmp 12)), 3, some (150, false)⟩,
                  .one ⟨true, some 156, (Go.Op.indexAddr 39 (Go.Operand.tmp 154) (Go.Operand.tmp 155)), 0, some (150, false)⟩,
                  .one ⟨true, some 157, (Go.Op.load 43 (Go.Operand.tmp 156)), 43, some (150, false)⟩,
                  .one ⟨true, some 158, (Go.Op.convert 43 5 (Go.Operand.tmp 157)), 5, some (150, false)⟩,
                  .one ⟨true, some 159, (Go.Op.binOp Go.BinOp.neq 5 (Go.Operand.tmp 153) (Go.Operand.tmp 158) 5), 4, some (150, false)⟩,
                  .one ⟨true, some 160, (Go.Op.pick (Go.Operand.tmp 150) (Go.Operand.const (Go.Value.bool true)) (Go.Operand.tmp 159)), 4, some (143, true)⟩,
                  .one ⟨true, some 161, (Go.Op.pick (Go.Operand.tmp 143) (Go.Operand.tmp 160) (Go.Operand.const (Go.Value.bool false))), 4, some (140, false)⟩,
                  .one ⟨true, some 162, (Go.Op.pick (Go.Operand.tmp 140) (Go.Operand.const (Go.Value.bool true)) (Go.Operand.tmp 161)), 4, none⟩]
                            (fun w => Sat w0 w [ownA .u8 5 A16 c17 l18, diskA g5 D6]) rfl (by kernel_rfl) (by kernel_rfl) (S.drew.mask [true, true]) ?_
                          have S := S.drew
                          refine sl_run orc_ok 3 rfl fr fun a fr => ?_
                          refine sl_split 128 fr rfl h (fun fr h => ?_) (fun fr h => ?_)
                          · refine sl_run orc_ok 1 rfl fr fun a fr => ?_
                            obtain ⟨hc, h⟩ := ifs h
                            refine sl_ld orc_ok (fun _ S => Sat.ownAt S 0 rfl) fr rfl rfl rfl rfl rfl rfl rfl rfl rfl rfl rfl rfl rfl rfl rfl rfl rfl rfl hc (Sat.mask S [true, true]) fun a fr => ?_
                            refine sl_run orc_ok 2 rfl fr fun a fr => ?_
                            refine sl_split 133 fr rfl h (fun fr h => ?_) (fun fr h => ?_)
                            · cases h
                            · refine sl_run orc_ok 1 rfl fr fun a fr => ?_
                              obtain ⟨hc, h⟩ := ifs h
                              refine sl_ld orc_ok (fun _ S => Sat.ownAt S 0 rfl) fr rfl rfl rfl rfl rfl rfl rfl rfl rfl rfl rfl rfl rfl rfl rfl rfl rfl rfl hc (Sat.mask S [true, true]) fun a fr => ?_
                              refine sl_run orc_ok 4 rfl fr fun a fr => ?_
                              refine sl_split 140 fr rfl h (fun fr h => ?_) (fun fr h => ?_)
                              · cases h
                              · refine sl_run orc_ok 3 rfl fr fun a fr => ?_
                                refine sl_split 143 fr rfl h (fun fr h => ?_) (fun fr h => ?_)
                                · refine sl_run orc_ok 1 rfl fr fun a fr => ?_
                                  obtain ⟨hc, h⟩ := ifs h
                                  refine sl_ld orc_ok (fun _ S => Sat.ownAt S 0 rfl) fr rfl rfl rfl rfl rfl rfl rfl rfl rfl rfl rfl rfl rfl rfl rfl rfl rfl rfl hc (Sat.mask S [true, true]) fun a fr => ?_
                                  refine sl_run orc_ok 4 rfl fr fun a fr => ?_
                                  refine sl_split 150 fr rfl h (fun fr h => ?_) (fun fr h => ?_)
                                  · cases h
                                  · refine sl_run orc_ok 1 rfl fr fun a fr => ?_
                                    obtain ⟨hc, h⟩ := ifs h
                                    refine sl_ld orc_ok (fun _ S => Sat.ownAt S 0 rfl) fr rfl rfl rfl rfl rfl rfl rfl rfl rfl rfl rfl rfl rfl rfl rfl rfl rfl rfl hc (Sat.mask S [true, true]) fun a fr => ?_
                                    refine sl_run orc_ok 2 rfl fr fun a fr => ?_
                                    obtain ⟨hc, h⟩ := ifs h
                                    refine sl_ld orc_ok (fun _ S => Rk.at r0 S) fr rfl rfl rfl rfl rfl rfl rfl rfl rfl rfl rfl rfl rfl rfl rfl rfl rfl rfl hc (Sat.mask S [true, true]) fun a fr => ?_
                                    refine sl_run orc_ok 5 rfl fr fun a fr => ?_
                                    refine sl_end ?_
                                    refine then_n ?_
                                    refine cw_if fr rfl h (fun h => ?_) (fun h => ?_)
                                    · cases h
                                    · refine wp_skip ?_
                                      refine blk_n ?_
                                      have S : Sat w0 _ [diskA g5 D6] := S.mask [false, true]
                                      exact ⟨fr.sub ⟨rfl, rfl, rfl, rfl, rfl, trivial⟩, S, h⟩
                                · refine sl_run orc_ok 19 rfl fr fun a fr => ?_
                                  refine sl_end ?_
                                  refine then_n ?_
                                  refine cw_f fr rfl ?_
                                  refine wp_skip ?_
                                  refine blk_n ?_
                                  have S : Sat w0 _ [diskA g5 D6] := S.mask [false, true]
                                  exact ⟨fr.sub ⟨rfl, rfl, rfl, rfl, rfl, trivial⟩, S, h⟩
                          · refine sl_run orc_ok 15 rfl fr fun a fr => ?_
                            refine sl_split 143 fr rfl h (fun fr h => ?_) (fun fr h => ?_)
                            · refine sl_run orc_ok 1 rfl fr fun a fr => ?_
                              obtain ⟨hc, h⟩ := ifs h
                              refine sl_ld orc_ok (fun _ S => Sat.ownAt S 0 rfl) fr rfl rfl rfl rfl rfl rfl rfl rfl rfl rfl rfl rfl rfl rfl rfl rfl rfl rfl hc (Sat.mask S [true, true]) fun a fr => ?_
                              refine sl_run orc_ok 4 rfl fr fun a fr => ?_
                              refine sl_split 150 fr rfl h (fun fr h => ?_) (fun fr h => ?_)
                              · cases h
                              · refine sl_run orc_ok 1 rfl fr fun a fr => ?_
                                obtain ⟨hc, h⟩ := ifs h
                                refine sl_ld orc_ok (fun _ S => Sat.ownAt S 0 rfl) fr rfl rfl rfl rfl rfl rfl rfl rfl rfl rfl rfl rfl rfl rfl rfl rfl rfl rfl hc (Sat.mask S [true, true]) fun a fr => ?_
                                refine sl_run orc_ok 2 rfl fr fun a fr => ?_
                                obtain ⟨hc, h⟩ := ifs h
                                refine sl_ld orc_ok (fun _ S => Rk.at r0 S) fr rfl rfl rfl rfl rfl rfl rfl rfl rfl rfl rfl rfl rfl rfl rfl rfl rfl rfl hc (Sat.mask S [true, true]) fun a fr => ?_
                                refine sl_run orc_ok 5 rfl fr fun a fr => ?_
                                refine sl_end ?_
                                refine then_n ?_
                                refine cw_if fr rfl h (fun h => ?_) (fun h => ?_)
                                · cases h
                                · refine wp_skip ?_
                                  refine blk_n ?_
                                  have S : Sat w0 _ [diskA g5 D6] := S.mask [false, true]
                                  exact ⟨fr.sub ⟨rfl, rfl, rfl, rfl, rfl, trivial⟩, S, h⟩
                            · refine sl_run orc_ok 19 rfl fr fun a fr => ?_
                              refine sl_end ?_
                              refine then_n ?_
                              refine cw_f fr rfl ?_
                              refine wp_skip ?_
                              refine blk_n ?_
                              have S : Sat w0 _ [diskA g5 D6] := S.mask [false, true]
                              exact ⟨fr.sub ⟨rfl, rfl, rfl, rfl, rfl, trivial⟩, S, h⟩
                  · rintro a w ⟨fr, S, h⟩
                    rw [SectorsSure.j3] at h
                    refine wp_region_lit ?_
                    refine wl_run orc_ok 3 rfl fr fun a fr => ?_
                    refine wpList_nil ?_
                    exact ⟨(IntKind.wrap .i64 (x7 + (1 : Int))), fr.sub ⟨rfl, rfl, rfl, rfl, rfl, trivial⟩, S, h⟩
                · refine wp_exit ?_
                  refine then_e ?_
                  refine then_e ?_
                  refine blk_y ?_
                  refine then_n ?_
                  refine wp_seq ?_
                  refine wp_region_lit ?_
                  refine wl_run orc_ok 1 rfl fr fun a fr => ?_
                  refine wpList_nil ?_
                  refine then_n ?_
                  refine wp_ret ?_
                  injection h with h
                  subst h
                  refine ret1 fr rfl rfl ?_
                  exact ⟨rfl, fr.vok (d := 6) rfl, S.mask []⟩
  exact (key w rfl (Sat.start w)).mono fun e w' ⟨h1, h2, h3⟩ => ⟨h1, h2, S.new h3.below⟩
end Go.Proofs.Ytkokdpnnmkphmaa.Pl
