/- Walks over the program's functions, printed by a program of this work (wip/tools/shal.py): each call does what the plain function says. -/
import Derived.Test.YtkokdpnnmkphmaaSe
import Derived.Test.YtkokdpnnmkphmaaSn
import Derived.Test.YtkokdpnnmkphmaaSo
import Derived.Test.YtkokdpnnmkphmaaDSectorsAll
namespace Go.Proofs.Ytkokdpnnmkphmaa.Pl
open Go Go.RowKit Sx Base Own Disk Bytes

def orc : Orc := ⟨[(3, .int .i64), (5, .int .u8), (22, .slice 5), (24, .pointer 28), (39, .slice 43), (43, .int .u16)],
  [(5, 1), (43, 1)]⟩
theorem orc_ok : orc.Ok Try.prog := ⟨⟨Try.underlying3, Try.underlying5, Try.underlying22, Try.underlying24, Try.underlying39, Try.underlying43, trivial⟩, ⟨by kernel_rfl, by kernel_rfl, trivial⟩⟩
theorem en10 : Enters Try.prog 10 := fun _ _ => by kernel_rfl
theorem en11 : Enters Try.prog 11 := fun _ _ => by kernel_rfl
theorem en13 : Enters Try.prog 13 := fun _ _ => by kernel_rfl
theorem en16 : Enters Try.prog 16 := fun _ _ => by kernel_rfl
theorem en17 : Enters Try.prog 17 := fun _ _ => by kernel_rfl
theorem en19 : Enters Try.prog 19 := fun _ _ => by kernel_rfl
set_option maxRecDepth 100000 in
set_option maxHeartbeats 4000000 in
theorem SameBytes.walk (k : Nat) (A0 : Option Addr) (c0 : Nat) (l0 : List Int) (A1 : Option Addr) (c1 : Nat) (l1 : List Int) {w0 w : World} {R : List Asn} (r0 : Rk .u8 w A0 l0) (m0 : l0.length ≤ c0 ∧ c0 ≤ maxLen) (r1 : Rk .u8 w A1 l1) (m1 : l1.length ≤ c1 ∧ c1 ≤ maxLen) (S : Sat w0 w R) {r : Bool} (h : SameBytes.f k l0 l1 = some r) :
    Calls Try.prog 19 #[(.slice A0 (List.length l0) c0), (.slice A1 (List.length l1) c1)] w fun e w' => e = .returned (.bool r) ∧ vok (.bool r) = true ∧ Sat w0 w' R := by
  have key : ∀ w0 : World, w0 = w → Sat w0 w [] → Calls Try.prog 19 #[(.slice A0 (List.length l0) c0), (.slice A1 (List.length l1) c1)] w fun e w' => e = .returned (.bool r) ∧ vok (.bool r) = true ∧ Sat w0 w' [] := by
    clear S
    intro w0 hw S
    rw [← hw] at r0
    rw [← hw] at r1
    clear hw
    unfold SameBytes.f at h
    refine calls_start (N := 26) [(.slice A0 (List.length l0) c0), (.slice A1 (List.length l1) c1)] Try.func19 rfl rfl rfl (vok_c (vok_sl m0) (vok_c (vok_sl m1) rfl)) fun a fr => ?_
    refine wp_seq ?_
    refine wp_region_lit ?_
    refine wl_run orc_ok 1 rfl fr fun a fr => ?_
    refine wpList_nil ?_
    refine then_n ?_
    refine wp_seq ?_
    refine wp_seq ?_
    refine wp_region_lit ?_
    refine wl_run orc_ok 5 rfl fr fun a fr => ?_
    refine wpList_nil ?_
    refine then_n ?_
    refine cw_if fr rfl h (fun h => ?_) (fun h => ?_)
    · refine wp_seq ?_
      refine wp_region_lit ?_
      refine wl_run orc_ok 1 rfl fr fun a fr => ?_
      refine wpList_nil ?_
      refine then_n ?_
      refine wp_ret ?_
      refine then_r ?_
      injection h with h
      subst h
      refine ret1 fr rfl rfl ?_
      exact ⟨rfl, fr.vok (d := 4) rfl, S.mask []⟩
    · refine wp_skip ?_
      refine then_n ?_
      refine wp_seq ?_
      refine wp_seq ?_
      refine wp_region_lit ?_
      refine wl_run orc_ok 1 rfl fr fun a fr => ?_
      refine wpList_nil ?_
      refine then_n ?_
      refine wp_block ?_
      refine cw_loop (fun k1 a w => ∃ x1 : Int, Fr 26 a [(0, (.slice A0 (List.length l0) c0)), (1, (.slice A1 (List.length l1) c1)), (5, (.int .i64 x1))] ∧ Sat w0 w [] ∧ (SameBytes.l1 k1 l0 l1 x1) = some r) k ⟨(0 : Int), fr.sub ⟨rfl, rfl, rfl, trivial⟩, S, h⟩ ?_ ?_
      · rintro a w ⟨x1, -, -, h⟩
        simp only [SameBytes.l1] at h
        cases h
      · rintro k1 a w ⟨x1, fr, S, h⟩
        rw [SameBytes.l1] at h
        refine wp_seq ?_
        refine wp_seq ?_
        refine wp_region_lit ?_
        refine wl_run orc_ok 4 rfl fr fun a fr => ?_
        refine wpList_nil ?_
        refine then_n ?_
        refine cw_if fr rfl h (fun h => ?_) (fun h => ?_)
        · refine wp_skip ?_
          refine then_n ?_
          refine wp_seq ?_
          refine wp_block ?_
          refine wp_seq ?_
          refine wp_region_sl [.one (0, true, some 17), .one (1, true, some 18), .one (2, true, some 19), .one (3, true, some 20), .one (4, true, some 21), .one (5, true, some 22), .one (6, true, some 23), .one (7, true, some 24), .one (8, true, some 25)]
            [.one ⟨true, some 17, (Go.Op.move (Go.Operand.tmp 0)), 22, none⟩,
                  .one ⟨true, some 18, (Go.Op.move (Go.Operand.tmp 5)), 3, none⟩,
                  .one ⟨true, some 19, (Go.Op.indexAddr 22 (Go.Operand.tmp 17) (Go.Operand.tmp 18)), 0, none⟩,
                  .one ⟨true, some 20, (Go.Op.load 5 (Go.Operand.tmp 19)), 5, none⟩,
                  .one ⟨true, some 21, (Go.Op.move (Go.Operand.tmp 1)), 22, none⟩,
                  .one ⟨true, some 22, (Go.Op.move (Go.Operand.tmp 5)), 3, none⟩,
                  .one ⟨true, some 23, (Go.Op.indexAddr 22 (Go.Operand.tmp 21) (Go.Operand.tmp 22)), 0, none⟩,
                  .one ⟨true, some 24, (Go.Op.load 5 (Go.Operand.tmp 23)), 5, none⟩,
                  .one ⟨true, some 25, (Go.Op.binOp Go.BinOp.neq 5 (Go.Operand.tmp 20) (Go.Operand.tmp 24) 5), 4, none⟩]
            (fun w => Sat w0 w []) rfl (by kernel_rfl) (by kernel_rfl) (S.drew.mask []) ?_
          have S := S.drew
          refine sl_run orc_ok 2 rfl fr fun a fr => ?_
          obtain ⟨hc, h⟩ := ifs h
          refine sl_ld orc_ok (fun _ S => Rk.at r0 S) fr rfl rfl rfl rfl rfl rfl rfl rfl rfl rfl rfl rfl rfl rfl rfl rfl rfl rfl hc (Sat.mask S []) fun a fr => ?_
          refine sl_run orc_ok 2 rfl fr fun a fr => ?_
          obtain ⟨hc, h⟩ := ifs h
          refine sl_ld orc_ok (fun _ S => Rk.at r1 S) fr rfl rfl rfl rfl rfl rfl rfl rfl rfl rfl rfl rfl rfl rfl rfl rfl rfl rfl hc (Sat.mask S []) fun a fr => ?_
          refine sl_run orc_ok 1 rfl fr fun a fr => ?_
          refine sl_end ?_
          refine then_n ?_
          refine cw_if fr rfl h (fun h => ?_) (fun h => ?_)
          · refine wp_seq ?_
            refine wp_region_lit ?_
            refine wl_run orc_ok 1 rfl fr fun a fr => ?_
            refine wpList_nil ?_
            refine then_n ?_
            refine wp_ret ?_
            refine blk_r ?_
            refine then_r ?_
            refine then_r ?_
            refine blk_r ?_
            refine then_r ?_
            injection h with h
            subst h
            refine ret1 fr rfl rfl ?_
            exact ⟨rfl, fr.vok (d := 4) rfl, S.mask []⟩
          · refine wp_skip ?_
            refine blk_n ?_
            refine then_n ?_
            refine wp_region_lit ?_
            refine wl_run orc_ok 3 rfl fr fun a fr => ?_
            refine wpList_nil ?_
            exact ⟨(IntKind.wrap .i64 (x1 + (1 : Int))), fr.sub ⟨rfl, rfl, rfl, trivial⟩, S, h⟩
        · refine wp_exit ?_
          refine then_e ?_
          refine then_e ?_
          refine blk_y ?_
          refine then_n ?_
          refine wp_seq ?_
          refine wp_region_lit ?_
          refine wl_run orc_ok 1 rfl fr fun a fr => ?_
          refine wpList_nil ?_
          refine then_n ?_
          refine wp_ret ?_
          injection h with h
          subst h
          refine ret1 fr rfl rfl ?_
          exact ⟨rfl, fr.vok (d := 4) rfl, S.mask []⟩
  exact (key w rfl (Sat.start w)).mono fun e w' ⟨h1, h2, h3⟩ => ⟨h1, h2, S.new h3.below⟩
set_option maxRecDepth 100000 in
set_option maxHeartbeats 4000000 in
theorem SectorsAll.walk (k : Nat) (A0 : Option Addr) (c0 : Nat) (l0 : List Int) (a1 : Int) {w0 w : World} {R : List Asn} (r0 : Rk .u16 w A0 l0) (m0 : l0.length ≤ c0 ∧ c0 ≤ maxLen) (v1 : (Lit.int .u8 a1).wf = true) (S : Sat w0 w R) {r : Bool} (h : SectorsAll.f k l0 a1 = some r) :
    Calls Try.prog 8 #[(.slice A0 (List.length l0) c0), (.int .u8 a1)] w fun e w' => e = .returned (.bool r) ∧ vok (.bool r) = true ∧ Sat w0 w' R := by
  have key : ∀ w0 : World, w0 = w → Sat w0 w [] → Calls Try.prog 8 #[(.slice A0 (List.length l0) c0), (.int .u8 a1)] w fun e w' => e = .returned (.bool r) ∧ vok (.bool r) = true ∧ Sat w0 w' [] := by
    clear S
    intro w0 hw S
    rw [← hw] at r0
    clear hw
    unfold SectorsAll.f at h
    refine calls_start (N := 127) [(.slice A0 (List.length l0) c0), (.int .u8 a1)] Try.func8 rfl rfl rfl (vok_c (vok_sl m0) (vok_c v1 rfl)) fun a fr => ?_
    refine wp_seq ?_
    refine wp_region_lit ?_
    refine wl_run orc_ok 1 rfl fr fun a fr => ?_
    refine wpList_nil ?_
    refine then_n ?_
    refine wp_seq ?_
    refine wp_seq ?_
    refine wp_region_lit ?_
    refine wl_call fr rfl rfl rfl rfl en16 (alive04 S) ?_
    rintro _ w ⟨rfl, S⟩
    refine ⟨_, rfl, rfl, fun a fr => ?_⟩
    refine wl_run orc_ok 6 rfl fr fun a fr => ?_
    refine wpList_nil ?_
    refine then_n ?_
    refine cw_if fr rfl h (fun h => ?_) (fun h => ?_)
    · refine wp_seq ?_
      refine wp_region_lit ?_
      refine wl_call fr rfl rfl rfl rfl en16 (alive04 S) ?_
      rintro _ w ⟨rfl, S⟩
      refine ⟨_, rfl, rfl, fun a fr => ?_⟩
      refine wl_run orc_ok 1 rfl fr fun a fr => ?_
      refine wpList_nil ?_
      refine then_n ?_
      refine wp_ret ?_
      refine then_r ?_
      injection h with h
      subst h
      refine ret1 fr rfl rfl ?_
      exact ⟨rfl, fr.vok (d := 4) rfl, S.mask []⟩
    · refine wp_skip ?_
      refine then_n ?_
      refine wp_seq ?_
      refine wp_region_lit ?_
      refine wl_run orc_ok 1 rfl fr fun a fr => ?_
      refine wpList_nil ?_
      refine then_n ?_
      refine cw_cut (fun a w => ∃ x1 : Int, Fr 127 a [(0, (.slice A0 (List.length l0) c0)), (5, (.int .i64 x1))] ∧ Sat w0 w [] ∧ (SectorsAll.j1 k l0 x1) = some r) ?_ ?_
      · refine wp_seq ?_
        refine wp_region_lit ?_
        refine wl_run orc_ok 3 rfl fr fun a fr => ?_
        refine wpList_nil ?_
        refine then_n ?_
        refine cw_if fr rfl h (fun h => ?_) (fun h => ?_)
        · refine wp_region_lit ?_
          refine wl_run orc_ok 5 rfl fr fun a fr => ?_
          obtain ⟨hc, h⟩ := ifs h
          refine wl_pv orc_ok fr rfl rfl rfl (po_rem rfl rfl rfl hc) fun a fr => ?_
          refine wl_run orc_ok 1 rfl fr fun a fr => ?_
          obtain ⟨y28, hx, h⟩ := lt_h h
          have fr := fr.spell (d := 5) rfl (congrArg (Value.int .i64) hx)
          refine wpList_nil ?_
          exact ⟨y28, fr.sub ⟨rfl, rfl, trivial⟩, S, h⟩
        · refine wp_skip ?_
          exact ⟨(0 : Int), fr.sub ⟨rfl, rfl, trivial⟩, S, h⟩
      · rintro a w ⟨x1, fr, S, h⟩
        rw [SectorsAll.j1] at h
        refine wp_seq ?_
        refine wp_region_lit ?_
        refine wl_run orc_ok 2 rfl fr fun a fr => ?_
        obtain ⟨hc, h⟩ := ifs h
        refine wl_call fr rfl rfl rfl rfl en17 (disk_written S x1 (Rk.at r0 S) hc) ?_
        rintro _ w ⟨g2, rfl, S⟩
        refine ⟨_, rfl, rfl, fun a fr => ?_⟩
        obtain ⟨D3, hx, h⟩ := lt_h h
        rw [hx] at S
        refine wl_run orc_ok 1 rfl fr fun a fr => ?_
        refine wpList_nil ?_
        refine then_n ?_
        refine wp_seq ?_
        refine wp_region_lit ?_
        refine wl_run orc_ok 2 rfl fr fun a fr => ?_
        obtain ⟨hc, h⟩ := ifs h
        refine wl_take orc_ok fr rfl rfl rfl rfl rfl rfl rfl rfl rfl hc fun a fr => ?_
        refine wl_run orc_ok 1 rfl fr fun a fr => ?_
        obtain ⟨hc, h⟩ := ifs h
        refine wl_call fr rfl rfl rfl rfl en17 (disk_written S x1 (Rk.at (Rk.take r0 _) S) hc) ?_
        rintro _ w ⟨g5, rfl, S⟩
        refine ⟨_, rfl, rfl, fun a fr => ?_⟩
        obtain ⟨D6, hx, h⟩ := lt_h h
        rw [hx] at S
        refine wl_run orc_ok 1 rfl fr fun a fr => ?_
        refine wpList_nil ?_
        refine then_n ?_
        refine cw_cut (fun a w => ∃ D7 : Dk, Fr 127 a [(6, (.pointer (some ⟨g2, 0, none⟩))), (7, (.pointer (some ⟨g5, 0, none⟩)))] ∧ Sat w0 w [diskA g2 D7, diskA g5 D6] ∧ (SectorsAll.j2 k D6 D7) = some r) ?_ ?_
        · refine wp_seq ?_
          refine wp_region_lit ?_
          refine wl_run orc_ok 12 rfl fr fun a fr => ?_
          refine wl_split 57 fr rfl h (fun fr h => ?_) (fun fr h => ?_)
          · refine wl_run orc_ok 1 rfl fr fun a fr => ?_
            have S : Sat w0 _ [diskA g2 D3, diskA g5 D6] := S.frontAt 1 rfl
            refine wl_call fr rfl rfl rfl rfl en13 (disk_sync S) ?_
            rintro _ w ⟨rfl, S⟩
            refine ⟨_, rfl, rfl, fun a fr => ?_⟩
            refine wl_run orc_ok 3 rfl fr fun a fr => ?_
            refine wpList_nil ?_
            refine then_n ?_
            refine cw_f fr rfl ?_
            refine wp_skip ?_
            exact ⟨(Dk.sync D3), fr.sub ⟨rfl, rfl, trivial⟩, S, h⟩
          · refine wl_run orc_ok 5 rfl fr fun a fr => ?_
            refine wpList_nil ?_
            refine then_n ?_
            refine cw_f fr rfl ?_
            refine wp_skip ?_
            have S : Sat w0 _ [diskA g2 D3, diskA g5 D6] := S.frontAt 1 rfl
            exact ⟨D3, fr.sub ⟨rfl, rfl, trivial⟩, S, h⟩
        · rintro a w ⟨D7, fr, S, h⟩
          rw [SectorsAll.j2] at h
          refine wp_seq ?_
          refine wp_region_lit ?_
          refine wl_run orc_ok 1 rfl fr fun a fr => ?_
          obtain ⟨hc, h⟩ := ifs h
          refine wl_call fr rfl rfl rfl rfl en11 (disk_fail S rfl rfl hc) ?_
          rintro _ w ⟨g8, rfl, S⟩
          refine ⟨_, rfl, rfl, fun a fr => ?_⟩
          obtain ⟨D9, hx, h⟩ := lt_h h
          rw [hx] at S
          refine wl_run orc_ok 5 rfl fr fun a fr => ?_
          refine wpList_nil ?_
          refine then_n ?_
          refine wp_seq ?_
          refine wp_region_lit ?_
          refine wl_run orc_ok 1 rfl fr fun a fr => ?_
          have S : Sat w0 _ [diskA g2 D7, diskA g8 D9, diskA g5 D6] := S.frontAt 1 rfl
          obtain ⟨hc, h⟩ := ifs h
          refine wl_call fr rfl rfl rfl rfl en11 (disk_fail S rfl rfl hc) ?_
          rintro _ w ⟨g10, rfl, S⟩
          refine ⟨_, rfl, rfl, fun a fr => ?_⟩
          obtain ⟨D11, hx, h⟩ := lt_h h
          rw [hx] at S
          refine wl_run orc_ok 5 rfl fr fun a fr => ?_
          refine wpList_nil ?_
          refine then_n ?_
          refine wp_seq ?_
          refine wp_seq ?_
          refine wp_region_lit ?_
          refine wl_run orc_ok 6 rfl fr fun a fr => ?_
          refine wpList_nil ?_
          refine then_n ?_
          refine cw_f fr rfl ?_
          refine wp_skip ?_
          refine then_n ?_
          refine wp_seq ?_
          refine wp_seq ?_
          refine wp_region_lit ?_
          refine wl_run orc_ok 1 rfl fr fun a fr => ?_
          refine wpList_nil ?_
          refine then_n ?_
          refine wp_block ?_
          refine cw_loop (fun k1 a w => ∃ x12 : Int, Fr 127 a [(6, (.pointer (some ⟨g2, 0, none⟩))), (7, (.pointer (some ⟨g5, 0, none⟩))), (8, (.pointer (some ⟨g8, 0, none⟩))), (10, (.pointer (some ⟨g10, 0, none⟩))), (12, (.int .i64 x12))] ∧ Sat w0 w [diskA g10 D11, diskA g2 D7, diskA g8 D9, diskA g5 D6] ∧ (SectorsAll.l1 k1 D9 D7 D11 D6 x12) = some r) k ⟨(0 : Int), fr.sub ⟨rfl, rfl, rfl, rfl, rfl, trivial⟩, S, h⟩ ?_ ?_
          · rintro a w ⟨x12, -, -, h⟩
            simp only [SectorsAll.l1] at h
            cases h
          · rintro k1 a w ⟨x12, fr, S, h⟩
            rw [SectorsAll.l1] at h
            refine wp_seq ?_
            refine wp_seq ?_
            refine wp_region_lit ?_
            refine wl_run orc_ok 2 rfl fr fun a fr => ?_
            refine wpList_nil ?_
            refine then_n ?_
            refine cw_if fr rfl h (fun h => ?_) (fun h => ?_)
            · refine wp_skip ?_
              refine then_n ?_
              refine wp_seq ?_
              refine wp_block ?_
              refine wp_seq ?_
              refine wp_region_lit ?_
              refine wl_run orc_ok 2 rfl fr fun a fr => ?_
              have S : Sat w0 _ [diskA g8 D9, diskA g10 D11, diskA g2 D7, diskA g5 D6] := S.frontAt 2 rfl
              obtain ⟨hc, h⟩ := ifs h
              refine wl_call fr rfl rfl rfl rfl en10 (disk_read S hc) ?_
              rintro _ w ⟨A14, c15, rfl, hv, S⟩
              refine ⟨_, rfl, hv, fun a fr => ?_⟩
              obtain ⟨l16, hx, h⟩ := lt_h h
              rw [hx] at S fr
              refine wl_run orc_ok 5 rfl fr fun a fr => ?_
              refine wpList_nil ?_
              refine then_n ?_
              refine wp_seq ?_
              refine wp_region_lit ?_
              refine wl_run orc_ok 2 rfl fr fun a fr => ?_
              have S : Sat w0 _ [diskA g2 D7, ownA .u8 5 A14 c15 l16, diskA g8 D9, diskA g10 D11, diskA g5 D6] := S.frontAt 3 rfl
              obtain ⟨hc, h⟩ := ifs h
              refine wl_call fr rfl rfl rfl rfl en10 (disk_read S hc) ?_
              rintro _ w ⟨A17, c18, rfl, hv, S⟩
              refine ⟨_, rfl, hv, fun a fr => ?_⟩
              obtain ⟨l19, hx, h⟩ := lt_h h
              rw [hx] at S fr
              refine wl_run orc_ok 5 rfl fr fun a fr => ?_
              refine wpList_nil ?_
              refine then_n ?_
              refine wp_seq ?_
              refine wp_region_lit ?_
              refine wl_run orc_ok 2 rfl fr fun a fr => ?_
              have S : Sat w0 _ [diskA g10 D11, ownA .u8 5 A17 c18 l19, diskA g2 D7, ownA .u8 5 A14 c15 l16, diskA g8 D9, diskA g5 D6] := S.frontAt 4 rfl
              obtain ⟨hc, h⟩ := ifs h
              refine wl_call fr rfl rfl rfl rfl en10 (disk_read S hc) ?_
              rintro _ w ⟨A20, c21, rfl, hv, S⟩
              refine ⟨_, rfl, hv, fun a fr => ?_⟩
              obtain ⟨l22, hx, h⟩ := lt_h h
              rw [hx] at S fr
              refine wl_run orc_ok 5 rfl fr fun a fr => ?_
              refine wpList_nil ?_
              refine then_n ?_
              refine wp_seq ?_
              refine wp_region_lit ?_
              refine wl_run orc_ok 2 rfl fr fun a fr => ?_
              have S : Sat w0 _ [diskA g5 D6, ownA .u8 5 A20 c21 l22, diskA g10 D11, ownA .u8 5 A17 c18 l19, diskA g2 D7, ownA .u8 5 A14 c15 l16, diskA g8 D9] := S.frontAt 6 rfl
              obtain ⟨hc, h⟩ := ifs h
              refine wl_call fr rfl rfl rfl rfl en10 (disk_read S hc) ?_
              rintro _ w ⟨A23, c24, rfl, hv, S⟩
              refine ⟨_, rfl, hv, fun a fr => ?_⟩
              obtain ⟨l25, hx, h⟩ := lt_h h
              rw [hx] at S fr
              refine wl_run orc_ok 5 rfl fr fun a fr => ?_
              refine wpList_nil ?_
              refine then_n ?_
              refine wp_seq ?_
              refine wp_region_lit ?_
              refine wl_run orc_ok 4 rfl fr fun a fr => ?_
              refine wl_split 110 fr rfl h (fun fr h => ?_) (fun fr h => ?_)
              · cases h
              · refine wl_run orc_ok 5 rfl fr fun a fr => ?_
                refine wl_split 115 fr rfl h (fun fr h => ?_) (fun fr h => ?_)
                · cases h
                · refine wl_run orc_ok 2 rfl fr fun a fr => ?_
                  obtain ⟨r26, hr, h⟩ := bnd h
                  refine wl_call fr rfl rfl rfl rfl en19 (SameBytes.walk k1 A14 c15 l16 A17 c18 l19 (Sat.ownAt S 6 rfl) (fr.slice (d := 116) rfl) (Sat.ownAt S 4 rfl) (fr.slice (d := 117) rfl) S hr) ?_
                  rintro _ w ⟨rfl, hv, S⟩
                  refine ⟨_, rfl, hv, fun a fr => ?_⟩
                  refine wl_run orc_ok 3 rfl fr fun a fr => ?_
                  refine wl_split 121 fr rfl h (fun fr h => ?_) (fun fr h => ?_)
                  · cases h
                  · refine wl_run orc_ok 2 rfl fr fun a fr => ?_
                    obtain ⟨r27, hr, h⟩ := bnd h
                    refine wl_call fr rfl rfl rfl rfl en19 (SameBytes.walk k1 A20 c21 l22 A23 c24 l25 (Sat.ownAt S 2 rfl) (fr.slice (d := 122) rfl) (Sat.ownAt S 0 rfl) (fr.slice (d := 123) rfl) S hr) ?_
                    rintro _ w ⟨rfl, hv, S⟩
                    refine ⟨_, rfl, hv, fun a fr => ?_⟩
                    refine wl_run orc_ok 2 rfl fr fun a fr => ?_
                    refine wpList_nil ?_
                    refine then_n ?_
                    refine cw_if fr rfl h (fun h => ?_) (fun h => ?_)
                    · cases h
                    · refine wp_skip ?_
                      refine blk_n ?_
                      refine then_n ?_
                      refine wp_region_lit ?_
                      refine wl_run orc_ok 3 rfl fr fun a fr => ?_
                      refine wpList_nil ?_
                      have S : Sat w0 _ [diskA g5 D6, diskA g10 D11, diskA g2 D7, diskA g8 D9] := S.mask [false, true, false, true, false, true, false, true]
                      have S : Sat w0 _ [diskA g8 D9, diskA g5 D6, diskA g10 D11, diskA g2 D7] := S.frontAt 3 rfl
                      have S : Sat w0 _ [diskA g2 D7, diskA g8 D9, diskA g5 D6, diskA g10 D11] := S.frontAt 3 rfl
                      have S : Sat w0 _ [diskA g10 D11, diskA g2 D7, diskA g8 D9, diskA g5 D6] := S.frontAt 3 rfl
                      exact ⟨(IntKind.wrap .i64 (x12 + (1 : Int))), fr.sub ⟨rfl, rfl, rfl, rfl, rfl, trivial⟩, S, h⟩
            · refine wp_exit ?_
              refine then_e ?_
              refine then_e ?_
              refine blk_y ?_
              refine then_n ?_
              refine wp_seq ?_
              refine wp_region_lit ?_
              refine wl_run orc_ok 1 rfl fr fun a fr => ?_
              refine wpList_nil ?_
              refine then_n ?_
              refine wp_ret ?_
              injection h with h
              subst h
              refine ret1 fr rfl rfl ?_
              exact ⟨rfl, fr.vok (d := 4) rfl, S.mask []⟩
  exact (key w rfl (Sat.start w)).mono fun e w' ⟨h1, h2, h3⟩ => ⟨h1, h2, S.new h3.below⟩
end Go.Proofs.Ytkokdpnnmkphmaa.Pl
