/- Walks over the program's functions, printed by a program of this work (wip/tools/shal.py): each call does what the plain function says. -/
import Derived.Test.YtkokdpnnmkphmaaSe
import Derived.Test.YtkokdpnnmkphmaaSn
import Derived.Test.YtkokdpnnmkphmaaSo
import Derived.Test.YtkokdpnnmkphmaaDSectorsBits
namespace Go.Proofs.Ytkokdpnnmkphmaa.Pl
open Go Go.RowKit Sx Base Own Disk Bytes

def orc : Orc := ⟨[(3, .int .i64), (5, .int .u8), (22, .slice 5), (23, .int .u64), (56, .array 8 5), (57, .array 2 5)],
  [(5, 1)]⟩
theorem orc_ok : orc.Ok Try.prog := ⟨⟨Try.underlying3, Try.underlying5, Try.underlying22, Try.underlying23, Try.underlying56, Try.underlying57, trivial⟩, ⟨by kernel_rfl, trivial⟩⟩
theorem en11 : Enters Try.prog 11 := fun _ _ => by kernel_rfl
theorem en12 : Enters Try.prog 12 := fun _ _ => by kernel_rfl
theorem en16 : Enters Try.prog 16 := fun _ _ => by kernel_rfl
theorem en18 : Enters Try.prog 18 := fun _ _ => by kernel_rfl
theorem en20 : Enters Try.prog 20 := fun _ _ => by kernel_rfl
theorem lit22 : RowTy Try.prog 22 5 .u8 := ⟨Try.underlying22, 1, by decide, by kernel_rfl⟩
set_option maxRecDepth 100000 in
set_option maxHeartbeats 4000000 in
theorem SectorsBits.walk (k : Nat) (l0 : List Int) (a1 : Int) (l2 : List Int) {w0 w : World} {R : List Asn} (n0 : l0.length = 8) (v0 : ∀ z ∈ l0, (Lit.int .u8 z).wf = true) (v1 : (Lit.int .u8 a1).wf = true) (n2 : l2.length = 2) (v2 : ∀ z ∈ l2, (Lit.int .u8 z).wf = true) (S : Sat w0 w R) {r : Bool} (h : SectorsBits.f k l0 a1 l2 = some r) :
    Calls Try.prog 9 #[(.agg (List.map (Value.int .u8) l0).toArray), (.int .u8 a1), (.agg (List.map (Value.int .u8) l2).toArray)] w fun e w' => e = .returned (.bool r) ∧ vok (.bool r) = true ∧ Sat w0 w' R := by
  have key : ∀ w0 : World, w0 = w → Sat w0 w [] → Calls Try.prog 9 #[(.agg (List.map (Value.int .u8) l0).toArray), (.int .u8 a1), (.agg (List.map (Value.int .u8) l2).toArray)] w fun e w' => e = .returned (.bool r) ∧ vok (.bool r) = true ∧ Sat w0 w' [] := by
    clear S
    intro w0 hw S
    clear hw
    unfold SectorsBits.f at h
    refine calls_start (N := 129) [(.agg (List.map (Value.int .u8) l0).toArray), (.int .u8 a1), (.agg (List.map (Value.int .u8) l2).toArray)] Try.func9 rfl rfl rfl (vok_c (vok_ag v0) (vok_c v1 (vok_c (vok_ag v2) rfl))) fun a fr => ?_
    refine wp_seq ?_
    refine wp_region_lit ?_
    refine wl_box fr rfl rfl rfl rfl rfl n0 (fun _ => rfl) S ?_
    intro w g1 S a fr
    refine wl_box fr rfl rfl rfl rfl rfl n2 (fun _ => rfl) S ?_
    intro w g2 S a fr
    refine wl_run orc_ok 1 rfl fr fun a fr => ?_
    refine wpList_nil ?_
    refine then_n ?_
    refine wp_seq ?_
    refine wp_region_lit ?_
    have hc : (1 ≤ (8 : Int) ∧ (8 : Int) ≤ (4096 : Int)) := by decide
    refine wl_call fr rfl rfl rfl rfl en18 (disk_new S hc) ?_
    rintro _ w ⟨g3, rfl, S⟩
    refine ⟨_, rfl, rfl, fun a fr => ?_⟩
    refine wl_run orc_ok 5 rfl fr fun a fr => ?_
    refine wpList_nil ?_
    refine then_n ?_
    refine wp_seq ?_
    refine wp_seq ?_
    refine wp_region_lit ?_
    refine wl_run orc_ok 2 rfl fr fun a fr => ?_
    refine wpList_nil ?_
    refine then_n ?_
    refine cw_f fr rfl ?_
    refine wp_skip ?_
    refine then_n ?_
    refine wp_seq ?_
    refine wp_region_lit ?_
    refine wl_run orc_ok 6 rfl fr fun a fr => ?_
    obtain ⟨y4, hx, h⟩ := lt_h h
    have fr := fr.spell (d := 9) rfl (congrArg (Value.int .i64) hx)
    refine wpList_nil ?_
    refine then_n ?_
    refine wp_seq ?_
    refine wp_seq ?_
    refine wp_region_lit ?_
    refine wl_run orc_ok 1 rfl fr fun a fr => ?_
    refine wpList_nil ?_
    refine then_n ?_
    refine wp_block ?_
    refine cw_loop (fun k1 a w => ∃ D5 : Dk, ∃ x6 : Int, Fr 129 a [(1, (.int .u8 a1)), (3, (.pointer (some ⟨g1, 0, none⟩))), (5, (.pointer (some ⟨g2, 0, none⟩))), (7, (.pointer (some ⟨g3, 0, none⟩))), (9, (.int .i64 y4)), (10, (.int .i64 x6))] ∧ Sat w0 w [diskA g3 D5, arrA (Value.int .u8) 57 2 g2 l2, arrA (Value.int .u8) 56 8 g1 l0] ∧ (SectorsBits.l1 k1 l0 y4 a1 l2 D5 x6) = some r) k ⟨(Disk.blank (Int.toNat (8 : Int))), (0 : Int), fr.sub ⟨rfl, rfl, rfl, rfl, rfl, rfl, trivial⟩, S, h⟩ ?_ ?_
    · rintro a w ⟨D5, x6, -, -, h⟩
      simp only [SectorsBits.l1] at h
      cases h
    · rintro k1 a w ⟨D5, x6, fr, S, h⟩
      rw [SectorsBits.l1] at h
      refine wp_seq ?_
      refine wp_seq ?_
      refine wp_region_lit ?_
      refine wl_run orc_ok 2 rfl fr fun a fr => ?_
      refine wpList_nil ?_
      refine then_n ?_
      refine cw_if fr rfl h (fun h => ?_) (fun h => ?_)
      · refine wp_skip ?_
        refine then_n ?_
        refine wp_seq ?_
        refine wp_block ?_
        refine wp_seq ?_
        refine wp_region_lit ?_
        refine wl_run orc_ok 10 rfl fr fun a fr => ?_
        obtain ⟨hc, h⟩ := ifs h
        refine wl_lda orc_ok 0 (Sat.arrAt S 2 rfl) fr rfl rfl rfl rfl rfl rfl rfl rfl rfl rfl rfl rfl rfl rfl rfl rfl hc fun a fr => ?_
        refine wl_run orc_ok 1 rfl fr fun a fr => ?_
        refine wl_lit (xs := [(bitv .or .u8 (List.getD l0 (Int.toNat x6) 0) (1 : Int))]) orc_ok lit22 fr rfl rfl rfl rfl ⟨rfl, rfl, trivial⟩ rfl rfl S ?_
        intro w A9 c10 S
        intro a fr
        have S : Sat w0 _ [diskA g3 D5, ownA .u8 5 A9 c10 [(bitv .or .u8 (List.getD l0 (Int.toNat x6) 0) (1 : Int))], arrA (Value.int .u8) 57 2 g2 l2, arrA (Value.int .u8) 56 8 g1 l0] := S.frontAt 1 rfl
        obtain ⟨hc, h⟩ := ifs h
        refine wl_call fr rfl rfl rfl rfl en12 (disk_write S (Int.tmod (IntKind.wrap .i64 ((IntKind.wrap .i64 (x6 * y4)) + (IntKind.wrap .i64 (IntKind.wrap .u8 (Int.tdiv a1 (4 : Int)))))) (8 : Int)) (Sat.ownAt S 1 rfl) hc) ?_
        rintro _ w ⟨rfl, hv, S⟩
        refine ⟨_, rfl, hv, fun a fr => ?_⟩
        obtain ⟨D11, hx, h⟩ := lt_h h
        rw [hx] at S
        refine wl_run orc_ok 1 rfl fr fun a fr => ?_
        refine wpList_nil ?_
        refine then_n ?_
        refine cw_if fr rfl h (fun h => ?_) (fun h => ?_)
        · cases h
        · refine wp_skip ?_
          refine blk_n ?_
          refine then_n ?_
          refine wp_region_lit ?_
          refine wl_run orc_ok 3 rfl fr fun a fr => ?_
          refine wpList_nil ?_
          have S : Sat w0 _ [diskA g3 D11, arrA (Value.int .u8) 57 2 g2 l2, arrA (Value.int .u8) 56 8 g1 l0] := S.mask [true, false, true, true]
          have S : Sat w0 _ [arrA (Value.int .u8) 56 8 g1 l0, diskA g3 D11, arrA (Value.int .u8) 57 2 g2 l2] := S.frontAt 2 rfl
          have S : Sat w0 _ [arrA (Value.int .u8) 57 2 g2 l2, arrA (Value.int .u8) 56 8 g1 l0, diskA g3 D11] := S.frontAt 2 rfl
          have S : Sat w0 _ [diskA g3 D11, arrA (Value.int .u8) 57 2 g2 l2, arrA (Value.int .u8) 56 8 g1 l0] := S.frontAt 2 rfl
          exact ⟨D11, (IntKind.wrap .i64 (x6 + (1 : Int))), fr.sub ⟨rfl, rfl, rfl, rfl, rfl, rfl, trivial⟩, S, h⟩
      · refine wp_exit ?_
        refine then_e ?_
        refine then_e ?_
        refine blk_y ?_
        refine then_n ?_
        refine wp_seq ?_
        refine wp_region_lit ?_
        refine wl_run orc_ok 1 rfl fr fun a fr => ?_
        obtain ⟨hc, h⟩ := ifs h
        refine wl_lda orc_ok 0 (Sat.arrAt S 1 rfl) fr rfl rfl rfl rfl rfl rfl rfl rfl rfl rfl rfl rfl rfl rfl rfl rfl hc fun a fr => ?_
        refine wl_run orc_ok 1 rfl fr fun a fr => ?_
        obtain ⟨hc, h⟩ := ifs h
        refine wl_call fr rfl rfl rfl rfl en11 (disk_fail S (fr.int (d := 55) rfl) rfl hc) ?_
        rintro _ w ⟨g12, rfl, S⟩
        refine ⟨_, rfl, rfl, fun a fr => ?_⟩
        obtain ⟨D13, hx, h⟩ := lt_h h
        rw [hx] at S
        refine wl_run orc_ok 5 rfl fr fun a fr => ?_
        refine wpList_nil ?_
        refine then_n ?_
        refine wp_seq ?_
        refine wp_region_lit ?_
        refine wl_run orc_ok 1 rfl fr fun a fr => ?_
        obtain ⟨hc, h⟩ := ifs h
        refine wl_lda orc_ok 0 (Sat.arrAt S 2 rfl) fr rfl rfl rfl rfl rfl rfl rfl rfl rfl rfl rfl rfl rfl rfl rfl rfl hc fun a fr => ?_
        refine wl_run orc_ok 1 rfl fr fun a fr => ?_
        have S : Sat w0 _ [diskA g3 D5, diskA g12 D13, arrA (Value.int .u8) 57 2 g2 l2, arrA (Value.int .u8) 56 8 g1 l0] := S.frontAt 1 rfl
        obtain ⟨hc, h⟩ := ifs h
        refine wl_call fr rfl rfl rfl rfl en11 (disk_fail S (fr.int (d := 63) rfl) rfl hc) ?_
        rintro _ w ⟨g14, rfl, S⟩
        refine ⟨_, rfl, rfl, fun a fr => ?_⟩
        obtain ⟨D15, hx, h⟩ := lt_h h
        rw [hx] at S
        refine wl_run orc_ok 5 rfl fr fun a fr => ?_
        refine wpList_nil ?_
        refine then_n ?_
        refine wp_seq ?_
        refine wp_region_lit ?_
        refine wl_run orc_ok 1 rfl fr fun a fr => ?_
        obtain ⟨hc, h⟩ := ifs h
        refine wl_lda orc_ok 0 (Sat.arrAt S 3 rfl) fr rfl rfl rfl rfl rfl rfl rfl rfl rfl rfl rfl rfl rfl rfl rfl rfl hc fun a fr => ?_
        obtain ⟨hc, h⟩ := ifs h
        refine wl_lda orc_ok 0 (Sat.arrAt S 3 rfl) fr rfl rfl rfl rfl rfl rfl rfl rfl rfl rfl rfl rfl rfl rfl rfl rfl hc fun a fr => ?_
        refine wl_run orc_ok 2 rfl fr fun a fr => ?_
        have S : Sat w0 _ [diskA g3 D5, diskA g14 D15, diskA g12 D13, arrA (Value.int .u8) 57 2 g2 l2, arrA (Value.int .u8) 56 8 g1 l0] := S.frontAt 1 rfl
        obtain ⟨hc, h⟩ := ifs h
        refine wl_call fr rfl rfl rfl rfl en11 (disk_fail S (fr.int (d := 74) rfl) rfl hc) ?_
        rintro _ w ⟨g16, rfl, S⟩
        refine ⟨_, rfl, rfl, fun a fr => ?_⟩
        obtain ⟨D17, hx, h⟩ := lt_h h
        rw [hx] at S
        refine wl_run orc_ok 5 rfl fr fun a fr => ?_
        refine wpList_nil ?_
        refine then_n ?_
        refine wp_seq ?_
        refine wp_seq ?_
        refine wp_region_lit ?_
        refine wl_run orc_ok 10 rfl fr fun a fr => ?_
        refine wpList_nil ?_
        refine then_n ?_
        refine cw_f fr rfl ?_
        refine wp_skip ?_
        refine then_n ?_
        refine wp_seq ?_
        refine wp_seq ?_
        refine wp_region_lit ?_
        refine wl_run orc_ok 1 rfl fr fun a fr => ?_
        refine wpList_nil ?_
        refine then_n ?_
        refine wp_block ?_
        have S : Sat w0 _ [diskA g16 D17, diskA g14 D15, diskA g12 D13, arrA (Value.int .u8) 57 2 g2 l2, arrA (Value.int .u8) 56 8 g1 l0] := S.mask [true, false, true, true, true, true]
        have S : Sat w0 _ [arrA (Value.int .u8) 56 8 g1 l0, diskA g16 D17, diskA g14 D15, diskA g12 D13, arrA (Value.int .u8) 57 2 g2 l2] := S.frontAt 4 rfl
        have S : Sat w0 _ [arrA (Value.int .u8) 57 2 g2 l2, arrA (Value.int .u8) 56 8 g1 l0, diskA g16 D17, diskA g14 D15, diskA g12 D13] := S.frontAt 4 rfl
        have S : Sat w0 _ [diskA g12 D13, arrA (Value.int .u8) 57 2 g2 l2, arrA (Value.int .u8) 56 8 g1 l0, diskA g16 D17, diskA g14 D15] := S.frontAt 4 rfl
        have S : Sat w0 _ [diskA g14 D15, diskA g12 D13, arrA (Value.int .u8) 57 2 g2 l2, arrA (Value.int .u8) 56 8 g1 l0, diskA g16 D17] := S.frontAt 4 rfl
        have S : Sat w0 _ [diskA g16 D17, diskA g14 D15, diskA g12 D13, arrA (Value.int .u8) 57 2 g2 l2, arrA (Value.int .u8) 56 8 g1 l0] := S.frontAt 4 rfl
        refine cw_loop (fun k2 a w => ∃ x18 : Int, Fr 129 a [(1, (.int .u8 a1)), (3, (.pointer (some ⟨g1, 0, none⟩))), (5, (.pointer (some ⟨g2, 0, none⟩))), (9, (.int .i64 y4)), (11, (.pointer (some ⟨g12, 0, none⟩))), (13, (.pointer (some ⟨g14, 0, none⟩))), (15, (.pointer (some ⟨g16, 0, none⟩))), (17, (.int .i64 x18))] ∧ Sat w0 w [diskA g16 D17, diskA g14 D15, diskA g12 D13, arrA (Value.int .u8) 57 2 g2 l2, arrA (Value.int .u8) 56 8 g1 l0] ∧ (SectorsBits.l2 k2 y4 a1 l2 l0 D13 D17 D15 x18) = some r) k1 ⟨(0 : Int), fr.sub ⟨rfl, rfl, rfl, rfl, rfl, rfl, rfl, rfl, trivial⟩, S, h⟩ ?_ ?_
        · rintro a w ⟨x18, -, -, h⟩
          simp only [SectorsBits.l2] at h
          cases h
        · rintro k2 a w ⟨x18, fr, S, h⟩
          rw [SectorsBits.l2] at h
          refine wp_seq ?_
          refine wp_seq ?_
          refine wp_region_lit ?_
          refine wl_run orc_ok 2 rfl fr fun a fr => ?_
          refine wpList_nil ?_
          refine then_n ?_
          refine cw_if fr rfl h (fun h => ?_) (fun h => ?_)
          · refine wp_skip ?_
            refine then_n ?_
            refine wp_seq ?_
            refine wp_block ?_
            refine wp_seq ?_
            refine wp_region_lit ?_
            refine wl_run orc_ok 9 rfl fr fun a fr => ?_
            obtain ⟨y20, hx, h⟩ := lt_h h
            have fr := fr.spell (d := 18) rfl (congrArg (Value.int .i64) hx)
            refine wpList_nil ?_
            refine then_n ?_
            refine wp_seq ?_
            refine wp_region_lit ?_
            refine wl_run orc_ok 1 rfl fr fun a fr => ?_
            refine wpList_nil ?_
            refine then_n ?_
            refine cw_cut (fun a w => ∃ x21 : Int, Fr 129 a [(1, (.int .u8 a1)), (3, (.pointer (some ⟨g1, 0, none⟩))), (5, (.pointer (some ⟨g2, 0, none⟩))), (9, (.int .i64 y4)), (11, (.pointer (some ⟨g12, 0, none⟩))), (13, (.pointer (some ⟨g14, 0, none⟩))), (15, (.pointer (some ⟨g16, 0, none⟩))), (17, (.int .i64 x18)), (18, (.int .i64 y20)), (19, (.int .u8 x21))] ∧ Sat w0 w [diskA g16 D17, diskA g14 D15, diskA g12 D13, arrA (Value.int .u8) 57 2 g2 l2, arrA (Value.int .u8) 56 8 g1 l0] ∧ (SectorsBits.j1 (SectorsBits.l2 k2 y4 a1 l2 l0 D13 D17 D15) y20 D13 D17 D15 x18 x21) = some r) ?_ ?_
            · refine wp_seq ?_
              refine wp_region_lit ?_
              obtain ⟨hc, h⟩ := ifs h
              refine wl_lda orc_ok 0 (Sat.arrAt S 3 rfl) fr rfl rfl rfl rfl rfl rfl rfl rfl rfl rfl rfl rfl rfl rfl rfl rfl hc fun a fr => ?_
              refine wl_run orc_ok 1 rfl fr fun a fr => ?_
              obtain ⟨hc, h⟩ := ifs h
              refine wl_pv orc_ok fr rfl rfl rfl (po_shr rfl rfl rfl hc) fun a fr => ?_
              refine wl_run orc_ok 2 rfl fr fun a fr => ?_
              refine wpList_nil ?_
              refine then_n ?_
              refine cw_if fr rfl h (fun h => ?_) (fun h => ?_)
              · refine wp_region_lit ?_
                refine wl_run orc_ok 1 rfl fr fun a fr => ?_
                obtain ⟨hc, h⟩ := ifs h
                refine wl_lda orc_ok 0 (Sat.arrAt S 4 rfl) fr rfl rfl rfl rfl rfl rfl rfl rfl rfl rfl rfl rfl rfl rfl rfl rfl hc fun a fr => ?_
                refine wl_run orc_ok 2 rfl fr fun a fr => ?_
                obtain ⟨y22, hx, h⟩ := lt_h h
                have fr := fr.spell (d := 19) rfl (congrArg (Value.int .u8) hx)
                refine wpList_nil ?_
                exact ⟨y22, fr.sub ⟨rfl, rfl, rfl, rfl, rfl, rfl, rfl, rfl, rfl, rfl, trivial⟩, S, h⟩
              · refine wp_skip ?_
                exact ⟨(0 : Int), fr.sub ⟨rfl, rfl, rfl, rfl, rfl, rfl, rfl, rfl, rfl, rfl, trivial⟩, S, h⟩
            · rintro a w ⟨x21, fr, S, h⟩
              rw [SectorsBits.j1] at h
              refine wp_seq ?_
              refine wp_region_lit ?_
              refine wl_run orc_ok 2 rfl fr fun a fr => ?_
              have S : Sat w0 _ [diskA g12 D13, diskA g16 D17, diskA g14 D15, arrA (Value.int .u8) 57 2 g2 l2, arrA (Value.int .u8) 56 8 g1 l0] := S.frontAt 2 rfl
              obtain ⟨hc, h⟩ := ifs h
              refine wl_call fr rfl rfl rfl rfl en20 (disk_first S hc) ?_
              rintro _ w ⟨rfl, hv, S⟩
              refine ⟨_, rfl, hv, fun a fr => ?_⟩
              refine wl_run orc_ok 3 rfl fr fun a fr => ?_
              refine wl_split 115 fr rfl h (fun fr h => ?_) (fun fr h => ?_)
              · cases h
              · refine wl_run orc_ok 2 rfl fr fun a fr => ?_
                have S : Sat w0 _ [diskA g16 D17, diskA g12 D13, diskA g14 D15, arrA (Value.int .u8) 57 2 g2 l2, arrA (Value.int .u8) 56 8 g1 l0] := S.frontAt 1 rfl
                obtain ⟨hc, h⟩ := ifs h
                refine wl_call fr rfl rfl rfl rfl en20 (disk_first S hc) ?_
                rintro _ w ⟨rfl, hv, S⟩
                refine ⟨_, rfl, hv, fun a fr => ?_⟩
                refine wl_run orc_ok 2 rfl fr fun a fr => ?_
                have S : Sat w0 _ [diskA g12 D13, diskA g16 D17, diskA g14 D15, arrA (Value.int .u8) 57 2 g2 l2, arrA (Value.int .u8) 56 8 g1 l0] := S.frontAt 1 rfl
                obtain ⟨hc, h⟩ := ifs h
                refine wl_call fr rfl rfl rfl rfl en20 (disk_first S hc) ?_
                rintro _ w ⟨rfl, hv, S⟩
                refine ⟨_, rfl, hv, fun a fr => ?_⟩
                refine wl_run orc_ok 2 rfl fr fun a fr => ?_
                have S : Sat w0 _ [diskA g14 D15, diskA g12 D13, diskA g16 D17, arrA (Value.int .u8) 57 2 g2 l2, arrA (Value.int .u8) 56 8 g1 l0] := S.frontAt 2 rfl
                obtain ⟨hc, h⟩ := ifs h
                refine wl_call fr rfl rfl rfl rfl en20 (disk_first S hc) ?_
                rintro _ w ⟨rfl, hv, S⟩
                refine ⟨_, rfl, hv, fun a fr => ?_⟩
                refine wl_run orc_ok 3 rfl fr fun a fr => ?_
                refine wpList_nil ?_
                refine then_n ?_
                refine cw_if fr rfl h (fun h => ?_) (fun h => ?_)
                · cases h
                · refine wp_skip ?_
                  refine blk_n ?_
                  refine then_n ?_
                  refine wp_region_lit ?_
                  refine wl_run orc_ok 3 rfl fr fun a fr => ?_
                  refine wpList_nil ?_
                  have S : Sat w0 _ [arrA (Value.int .u8) 56 8 g1 l0, diskA g14 D15, diskA g12 D13, diskA g16 D17, arrA (Value.int .u8) 57 2 g2 l2] := S.frontAt 4 rfl
                  have S : Sat w0 _ [arrA (Value.int .u8) 57 2 g2 l2, arrA (Value.int .u8) 56 8 g1 l0, diskA g14 D15, diskA g12 D13, diskA g16 D17] := S.frontAt 4 rfl
                  have S : Sat w0 _ [diskA g12 D13, arrA (Value.int .u8) 57 2 g2 l2, arrA (Value.int .u8) 56 8 g1 l0, diskA g14 D15, diskA g16 D17] := S.frontAt 3 rfl
                  have S : Sat w0 _ [diskA g14 D15, diskA g12 D13, arrA (Value.int .u8) 57 2 g2 l2, arrA (Value.int .u8) 56 8 g1 l0, diskA g16 D17] := S.frontAt 3 rfl
                  have S : Sat w0 _ [diskA g16 D17, diskA g14 D15, diskA g12 D13, arrA (Value.int .u8) 57 2 g2 l2, arrA (Value.int .u8) 56 8 g1 l0] := S.frontAt 4 rfl
                  exact ⟨(IntKind.wrap .i64 (x18 + (1 : Int))), fr.sub ⟨rfl, rfl, rfl, rfl, rfl, rfl, rfl, rfl, trivial⟩, S, h⟩
          · refine wp_exit ?_
            refine then_e ?_
            refine then_e ?_
            refine blk_y ?_
            refine then_n ?_
            refine wp_seq ?_
            refine wp_region_lit ?_
            refine wl_call fr rfl rfl rfl rfl en16 (alive04 S) ?_
            rintro _ w ⟨rfl, S⟩
            refine ⟨_, rfl, rfl, fun a fr => ?_⟩
            refine wl_run orc_ok 1 rfl fr fun a fr => ?_
            refine wpList_nil ?_
            refine then_n ?_
            refine wp_ret ?_
            injection h with h
            subst h
            refine ret1 fr rfl rfl ?_
            exact ⟨rfl, fr.vok (d := 6) rfl, S.mask []⟩
  exact (key w rfl (Sat.start w)).mono fun e w' ⟨h1, h2, h3⟩ => ⟨h1, h2, S.new h3.below⟩
end Go.Proofs.Ytkokdpnnmkphmaa.Pl
