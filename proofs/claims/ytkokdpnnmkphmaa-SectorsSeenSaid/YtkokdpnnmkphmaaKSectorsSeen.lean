/- Walks over the program's functions, printed by a program of this work (wip/tools/shal.py): each call does what the plain function says. -/
import Derived.Test.YtkokdpnnmkphmaaSe
import Derived.Test.YtkokdpnnmkphmaaSn
import Derived.Test.YtkokdpnnmkphmaaSo
import Derived.Test.YtkokdpnnmkphmaaDSectorsSeen
namespace Go.Proofs.Ytkokdpnnmkphmaa.Pl
open Go Go.RowKit Sx Base Own Disk Bytes

def orc : Orc := ⟨[(3, .int .i64), (5, .int .u8), (22, .slice 5)],
  [(5, 1)]⟩
theorem orc_ok : orc.Ok Try.prog := ⟨⟨Try.underlying3, Try.underlying5, Try.underlying22, trivial⟩, ⟨by kernel_rfl, trivial⟩⟩
theorem en10 : Enters Try.prog 10 := fun _ _ => by kernel_rfl
theorem en12 : Enters Try.prog 12 := fun _ _ => by kernel_rfl
theorem en13 : Enters Try.prog 13 := fun _ _ => by kernel_rfl
theorem en16 : Enters Try.prog 16 := fun _ _ => by kernel_rfl
theorem en18 : Enters Try.prog 18 := fun _ _ => by kernel_rfl
set_option maxRecDepth 100000 in
set_option maxHeartbeats 4000000 in
theorem SectorsSeen.walk (k : Nat) (A0 : Option Addr) (c0 : Nat) (l0 : List Int) (A1 : Option Addr) (c1 : Nat) (l1 : List Int) (a2 : Int) {w0 w : World} {R : List Asn} (r0 : Rk .u8 w A0 l0) (m0 : l0.length ≤ c0 ∧ c0 ≤ maxLen) (r1 : Rk .u8 w A1 l1) (m1 : l1.length ≤ c1 ∧ c1 ≤ maxLen) (v2 : (Lit.int .u8 a2).wf = true) (S : Sat w0 w R) {r : Bool} (h : SectorsSeen.f k l0 l1 a2 = some r) :
    Calls Try.prog 5 #[(.slice A0 (List.length l0) c0), (.slice A1 (List.length l1) c1), (.int .u8 a2)] w fun e w' => e = .returned (.bool r) ∧ vok (.bool r) = true ∧ Sat w0 w' R := by
  have key : ∀ w0 : World, w0 = w → Sat w0 w [] → Calls Try.prog 5 #[(.slice A0 (List.length l0) c0), (.slice A1 (List.length l1) c1), (.int .u8 a2)] w fun e w' => e = .returned (.bool r) ∧ vok (.bool r) = true ∧ Sat w0 w' [] := by
    clear S
    intro w0 hw S
    rw [← hw] at r0
    rw [← hw] at r1
    clear hw
    unfold SectorsSeen.f at h
    refine calls_start (N := 112) [(.slice A0 (List.length l0) c0), (.slice A1 (List.length l1) c1), (.int .u8 a2)] Try.func5 rfl rfl rfl (vok_c (vok_sl m0) (vok_c (vok_sl m1) (vok_c v2 rfl))) fun a fr => ?_
    refine wp_seq ?_
    refine wp_region_lit ?_
    refine wl_run orc_ok 1 rfl fr fun a fr => ?_
    refine wpList_nil ?_
    refine then_n ?_
    refine wp_seq ?_
    refine wp_seq ?_
    refine wp_region_lit ?_
    refine wl_call fr rfl rfl rfl rfl en16 (alive04 S) ?_
    rintro _ w ⟨rfl, S⟩
    refine ⟨_, rfl, rfl, fun a fr => ?_⟩
    refine wl_run orc_ok 7 rfl fr fun a fr => ?_
    refine wl_split 23 fr rfl h (fun fr h => ?_) (fun fr h => ?_)
    · refine wl_run orc_ok 4 rfl fr fun a fr => ?_
      refine wpList_nil ?_
      refine then_n ?_
      refine cw_t fr rfl ?_
      refine wp_seq ?_
      refine wp_region_lit ?_
      refine wl_call fr rfl rfl rfl rfl en16 (alive04 S) ?_
      rintro _ w ⟨rfl, S⟩
      refine ⟨_, rfl, rfl, fun a fr => ?_⟩
      refine wl_run orc_ok 1 rfl fr fun a fr => ?_
      refine wpList_nil ?_
      refine then_n ?_
      refine wp_ret ?_
      refine then_r ?_
      injection h with h
      subst h
      refine ret1 fr rfl rfl ?_
      exact ⟨rfl, fr.vok (d := 6) rfl, S.mask []⟩
    · refine wl_run orc_ok 4 rfl fr fun a fr => ?_
      refine wpList_nil ?_
      refine then_n ?_
      refine cw_if fr rfl h (fun h => ?_) (fun h => ?_)
      · refine wp_seq ?_
        refine wp_region_lit ?_
        refine wl_call fr rfl rfl rfl rfl en16 (alive04 S) ?_
        rintro _ w ⟨rfl, S⟩
        refine ⟨_, rfl, rfl, fun a fr => ?_⟩
        refine wl_run orc_ok 1 rfl fr fun a fr => ?_
        refine wpList_nil ?_
        refine then_n ?_
        refine wp_ret ?_
        refine then_r ?_
        injection h with h
        subst h
        refine ret1 fr rfl rfl ?_
        exact ⟨rfl, fr.vok (d := 6) rfl, S.mask []⟩
      · refine wp_skip ?_
        refine then_n ?_
        refine wp_seq ?_
        refine wp_region_lit ?_
        have hc : (1 ≤ (20 : Int) ∧ (20 : Int) ≤ (4096 : Int)) := by decide
        refine wl_call fr rfl rfl rfl rfl en18 (disk_new S hc) ?_
        rintro _ w ⟨g1, rfl, S⟩
        refine ⟨_, rfl, rfl, fun a fr => ?_⟩
        refine wl_run orc_ok 5 rfl fr fun a fr => ?_
        refine wpList_nil ?_
        refine then_n ?_
        refine wp_seq ?_
        refine wp_seq ?_
        refine wp_region_lit ?_
        refine wl_run orc_ok 2 rfl fr fun a fr => ?_
        refine wpList_nil ?_
        refine then_n ?_
        refine cw_f fr rfl ?_
        refine wp_skip ?_
        refine then_n ?_
        refine wp_seq ?_
        refine wp_region_lit ?_
        refine wl_run orc_ok 4 rfl fr fun a fr => ?_
        obtain ⟨y2, hx, h⟩ := lt_h h
        have fr := fr.spell (d := 9) rfl (congrArg (Value.int .i64) hx)
        refine wpList_nil ?_
        refine then_n ?_
        refine wp_seq ?_
        refine wp_region_lit ?_
        refine wl_run orc_ok 1 rfl fr fun a fr => ?_
        refine wpList_nil ?_
        refine then_n ?_
        refine wp_seq ?_
        refine wp_seq ?_
        refine wp_region_lit ?_
        refine wl_run orc_ok 1 rfl fr fun a fr => ?_
        refine wpList_nil ?_
        refine then_n ?_
        refine wp_block ?_
        refine cw_loop (fun k1 a w => ∃ D3 : Dk, ∃ b4 : Bool, ∃ x5 : Int, Fr 112 a [(0, (.slice A0 (List.length l0) c0)), (1, (.slice A1 (List.length l1) c1)), (7, (.pointer (some ⟨g1, 0, none⟩))), (9, (.int .i64 y2)), (10, (.bool b4)), (11, (.int .i64 x5))] ∧ Sat w0 w [diskA g1 D3] ∧ (SectorsSeen.l1 k1 l1 l0 y2 D3 b4 x5) = some r) k ⟨(Disk.blank (Int.toNat (20 : Int))), false, (0 : Int), fr.sub ⟨rfl, rfl, rfl, rfl, rfl, rfl, trivial⟩, S, h⟩ ?_ ?_
        · rintro a w ⟨D3, b4, x5, -, -, h⟩
          simp only [SectorsSeen.l1] at h
          cases h
        · rintro k1 a w ⟨D3, b4, x5, fr, S, h⟩
          rw [SectorsSeen.l1] at h
          refine wp_seq ?_
          refine wp_seq ?_
          refine wp_region_lit ?_
          refine wl_run orc_ok 4 rfl fr fun a fr => ?_
          refine wpList_nil ?_
          refine then_n ?_
          refine cw_if fr rfl h (fun h => ?_) (fun h => ?_)
          · refine wp_skip ?_
            refine then_n ?_
            refine cw_cut (fun a w => ∃ D9 : Dk, ∃ b10 : Bool, Fr 112 a [(0, (.slice A0 (List.length l0) c0)), (1, (.slice A1 (List.length l1) c1)), (7, (.pointer (some ⟨g1, 0, none⟩))), (9, (.int .i64 y2)), (10, (.bool b10)), (11, (.int .i64 x5))] ∧ Sat w0 w [diskA g1 D9] ∧ (SectorsSeen.j1 (SectorsSeen.l1 k1 l1 l0 y2) x5 D9 b10) = some r) ?_ ?_
            · refine wp_block ?_
              refine cw_cut (fun a w => ∃ D11 : Dk, Fr 112 a [(0, (.slice A0 (List.length l0) c0)), (1, (.slice A1 (List.length l1) c1)), (7, (.pointer (some ⟨g1, 0, none⟩))), (9, (.int .i64 y2)), (10, (.bool b4)), (11, (.int .i64 x5))] ∧ Sat w0 w [diskA g1 D11] ∧ (SectorsSeen.j2 (SectorsSeen.l1 k1 l1 l0 y2) b4 x5 l1 y2 D11) = some r) ?_ ?_
              · refine wp_seq ?_
                refine wp_region_lit ?_
                refine wl_run orc_ok 3 rfl fr fun a fr => ?_
                obtain ⟨hc, h⟩ := ifs h
                refine wl_ld orc_ok (Rk.at r1 S) fr rfl rfl rfl rfl rfl rfl rfl rfl rfl rfl rfl rfl rfl rfl rfl rfl hc fun a fr => ?_
                refine wl_run orc_ok 3 rfl fr fun a fr => ?_
                obtain ⟨hc, h⟩ := ifs h
                refine wl_call fr rfl rfl rfl rfl en12 (disk_write S (Int.tmod (IntKind.wrap .i64 (List.getD l1 (Int.toNat x5) 0)) (20 : Int)) (Rk.at r0 S) hc) ?_
                rintro _ w ⟨rfl, hv, S⟩
                refine ⟨_, rfl, hv, fun a fr => ?_⟩
                obtain ⟨D13, hx, h⟩ := lt_h h
                rw [hx] at S
                refine wl_run orc_ok 2 rfl fr fun a fr => ?_
                refine wl_split 54 fr rfl h (fun fr h => ?_) (fun fr h => ?_)
                · cases h
                · refine wl_run orc_ok 2 rfl fr fun a fr => ?_
                  obtain ⟨hc, h⟩ := ifs h
                  refine wl_ld orc_ok (Rk.at r1 S) fr rfl rfl rfl rfl rfl rfl rfl rfl rfl rfl rfl rfl rfl rfl rfl rfl hc fun a fr => ?_
                  refine wl_run orc_ok 3 rfl fr fun a fr => ?_
                  refine wl_split 61 fr rfl h (fun fr h => ?_) (fun fr h => ?_)
                  · refine wl_run orc_ok 1 rfl fr fun a fr => ?_
                    refine wl_call fr rfl rfl rfl rfl en13 (disk_sync S) ?_
                    rintro _ w ⟨rfl, S⟩
                    refine ⟨_, rfl, rfl, fun a fr => ?_⟩
                    refine wl_run orc_ok 3 rfl fr fun a fr => ?_
                    refine wpList_nil ?_
                    refine then_n ?_
                    refine cw_f fr rfl ?_
                    refine wp_skip ?_
                    exact ⟨(Dk.sync D13), fr.sub ⟨rfl, rfl, rfl, rfl, rfl, rfl, trivial⟩, S, h⟩
                  · refine wl_run orc_ok 5 rfl fr fun a fr => ?_
                    refine wpList_nil ?_
                    refine then_n ?_
                    refine cw_f fr rfl ?_
                    refine wp_skip ?_
                    exact ⟨D13, fr.sub ⟨rfl, rfl, rfl, rfl, rfl, rfl, trivial⟩, S, h⟩
              · rintro a w ⟨D11, fr, S, h⟩
                rw [SectorsSeen.j2] at h
                refine wp_region_lit ?_
                refine wl_run orc_ok 2 rfl fr fun a fr => ?_
                refine wl_split 68 fr rfl h (fun fr h => ?_) (fun fr h => ?_)
                · refine wl_run orc_ok 10 rfl fr fun a fr => ?_
                  refine wpList_nil ?_
                  refine blk_n ?_
                  exact ⟨D11, true, fr.sub ⟨rfl, rfl, rfl, rfl, rfl, rfl, trivial⟩, S, h⟩
                · refine wl_run orc_ok 2 rfl fr fun a fr => ?_
                  obtain ⟨hc, h⟩ := ifs h
                  refine wl_ld orc_ok (Rk.at r1 S) fr rfl rfl rfl rfl rfl rfl rfl rfl rfl rfl rfl rfl rfl rfl rfl rfl hc fun a fr => ?_
                  refine wl_run orc_ok 6 rfl fr fun a fr => ?_
                  obtain ⟨y12, hx, h⟩ := lt_h h
                  have fr := fr.spell (d := 10) rfl (congrArg Value.bool hx)
                  refine wpList_nil ?_
                  refine blk_n ?_
                  exact ⟨D11, y12, fr.sub ⟨rfl, rfl, rfl, rfl, rfl, rfl, trivial⟩, S, h⟩
            · rintro a w ⟨D9, b10, fr, S, h⟩
              rw [SectorsSeen.j1] at h
              refine wp_region_lit ?_
              refine wl_run orc_ok 3 rfl fr fun a fr => ?_
              refine wpList_nil ?_
              exact ⟨D9, b10, (IntKind.wrap .i64 (x5 + (1 : Int))), fr.sub ⟨rfl, rfl, rfl, rfl, rfl, rfl, trivial⟩, S, h⟩
          · refine wp_exit ?_
            refine then_e ?_
            refine then_e ?_
            refine blk_y ?_
            refine then_n ?_
            refine wp_seq ?_
            refine wp_region_lit ?_
            refine wl_run orc_ok 2 rfl fr fun a fr => ?_
            obtain ⟨hc, h⟩ := ifs h
            refine wl_call fr rfl rfl rfl rfl en10 (disk_read S hc) ?_
            rintro _ w ⟨A14, c15, rfl, hv, S⟩
            refine ⟨_, rfl, hv, fun a fr => ?_⟩
            obtain ⟨l16, hx, h⟩ := lt_h h
            rw [hx] at S fr
            refine wl_run orc_ok 5 rfl fr fun a fr => ?_
            refine wpList_nil ?_
            refine then_n ?_
            refine wp_seq ?_
            refine wp_seq ?_
            refine wp_region_lit ?_
            refine wl_run orc_ok 7 rfl fr fun a fr => ?_
            refine wpList_nil ?_
            refine then_n ?_
            refine cw_if fr rfl h (fun h => ?_) (fun h => ?_)
            · cases h
            · refine wp_skip ?_
              refine then_n ?_
              refine wp_seq ?_
              refine wp_seq ?_
              refine wp_region_lit ?_
              refine wl_run orc_ok 1 rfl fr fun a fr => ?_
              refine wpList_nil ?_
              refine then_n ?_
              refine wp_block ?_
              have S : Sat w0 _ [ownA .u8 5 A14 c15 l16] := S.mask [true, false]
              refine cw_loop (fun k2 a w => ∃ x17 : Int, Fr 112 a [(0, (.slice A0 (List.length l0) c0)), (10, (.bool b4)), (12, (.slice A14 (List.length l16) c15)), (14, (.int .i64 x17))] ∧ Sat w0 w [ownA .u8 5 A14 c15 l16] ∧ (SectorsSeen.l2 k2 b4 l0 l16 x17) = some r) k1 ⟨(0 : Int), fr.sub ⟨rfl, rfl, rfl, rfl, trivial⟩, S, h⟩ ?_ ?_
              · rintro a w ⟨x17, -, -, h⟩
                simp only [SectorsSeen.l2] at h
                cases h
              · rintro k2 a w ⟨x17, fr, S, h⟩
                rw [SectorsSeen.l2] at h
                refine wp_seq ?_
                refine wp_seq ?_
                refine wp_region_lit ?_
                refine wl_run orc_ok 2 rfl fr fun a fr => ?_
                refine wpList_nil ?_
                refine then_n ?_
                refine cw_if fr rfl h (fun h => ?_) (fun h => ?_)
                · refine wp_skip ?_
                  refine then_n ?_
                  refine wp_seq ?_
                  refine wp_block ?_
                  refine wp_seq ?_
                  refine wp_region_lit ?_
                  refine wl_run orc_ok 1 rfl fr fun a fr => ?_
                  refine wpList_nil ?_
                  refine then_n ?_
                  refine cw_cut (fun a w => ∃ x19 : Int, Fr 112 a [(0, (.slice A0 (List.length l0) c0)), (10, (.bool b4)), (12, (.slice A14 (List.length l16) c15)), (14, (.int .i64 x17)), (15, (.int .u8 x19))] ∧ Sat w0 w [ownA .u8 5 A14 c15 l16] ∧ (SectorsSeen.j3 (SectorsSeen.l2 k2 b4 l0 l16) x17 l16 x19) = some r) ?_ ?_
                  · refine wp_seq ?_
                    refine wp_region_lit ?_
                    refine wl_run orc_ok 2 rfl fr fun a fr => ?_
                    refine wl_split 96 fr rfl h (fun fr h => ?_) (fun fr h => ?_)
                    · refine wl_run orc_ok 5 rfl fr fun a fr => ?_
                      refine wpList_nil ?_
                      refine then_n ?_
                      refine cw_if fr rfl h (fun h => ?_) (fun h => ?_)
                      · refine wp_region_lit ?_
                        refine wl_run orc_ok 2 rfl fr fun a fr => ?_
                        obtain ⟨hc, h⟩ := ifs h
                        refine wl_ld orc_ok (Rk.at r0 S) fr rfl rfl rfl rfl rfl rfl rfl rfl rfl rfl rfl rfl rfl rfl rfl rfl hc fun a fr => ?_
                        refine wl_run orc_ok 1 rfl fr fun a fr => ?_
                        obtain ⟨y20, hx, h⟩ := lt_h h
                        have fr := fr.spell (d := 15) rfl (congrArg (Value.int .u8) hx)
                        refine wpList_nil ?_
                        exact ⟨y20, fr.sub ⟨rfl, rfl, rfl, rfl, rfl, trivial⟩, S, h⟩
                      · refine wp_skip ?_
                        exact ⟨(0 : Int), fr.sub ⟨rfl, rfl, rfl, rfl, rfl, trivial⟩, S, h⟩
                    · refine wl_run orc_ok 5 rfl fr fun a fr => ?_
                      refine wpList_nil ?_
                      refine then_n ?_
                      refine cw_f fr rfl ?_
                      refine wp_skip ?_
                      exact ⟨(0 : Int), fr.sub ⟨rfl, rfl, rfl, rfl, rfl, trivial⟩, S, h⟩
                  · rintro a w ⟨x19, fr, S, h⟩
                    rw [SectorsSeen.j3] at h
                    refine wp_seq ?_
                    refine wp_region_lit ?_
                    refine wl_run orc_ok 2 rfl fr fun a fr => ?_
                    obtain ⟨hc, h⟩ := ifs h
                    refine wl_ld orc_ok (Sat.ownAt S 0 rfl) fr rfl rfl rfl rfl rfl rfl rfl rfl rfl rfl rfl rfl rfl rfl rfl rfl hc fun a fr => ?_
                    refine wl_run orc_ok 2 rfl fr fun a fr => ?_
                    refine wpList_nil ?_
                    refine then_n ?_
                    refine cw_if fr rfl h (fun h => ?_) (fun h => ?_)
                    · cases h
                    · refine wp_skip ?_
                      refine blk_n ?_
                      refine then_n ?_
                      refine wp_region_lit ?_
                      refine wl_run orc_ok 3 rfl fr fun a fr => ?_
                      refine wpList_nil ?_
                      exact ⟨(IntKind.wrap .i64 (x17 + (1 : Int))), fr.sub ⟨rfl, rfl, rfl, rfl, trivial⟩, S, h⟩
                · refine wp_exit ?_
                  refine then_e ?_
                  refine then_e ?_
                  refine blk_y ?_
                  refine then_n ?_
                  refine wp_seq ?_
                  refine wp_region_lit ?_
                  refine wl_run orc_ok 1 rfl fr fun a fr => ?_
                  refine wpList_nil ?_
                  refine then_n ?_
                  refine wp_ret ?_
                  injection h with h
                  subst h
                  refine ret1 fr rfl rfl ?_
                  exact ⟨rfl, fr.vok (d := 6) rfl, S.mask []⟩
  exact (key w rfl (Sat.start w)).mono fun e w' ⟨h1, h2, h3⟩ => ⟨h1, h2, S.new h3.below⟩
end Go.Proofs.Ytkokdpnnmkphmaa.Pl
