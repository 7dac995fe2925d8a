/- Texts of this work, one behind the other. -/
import Derived.Test.YticnjkdaccacaaaGreatDoorVWallsPlay14
import Derived.Test.YticnjkdaccacaaaGreatDoorProg
section
namespace Go.Proofs.YticnjkdaccacaaaGreatDoor.Pl
open Go Go.RowKit Sx Base _root_.Go.Proofs.YticnjkdaccacaaaGreatDoor.Own Disk Bytes
def orc : Orc := ⟨[(3, .int .i64), (4, .bool), (5, .int .u8), (44, .struct #[Go.Field.mk "n" 3 0 false "" "concordat/concordatlaw01" 0, Go.Field.mk "bytes" 31 1 false "" "concordat/concordatlaw01" 8, Go.Field.mk "ids" 32 2 false "" "concordat/concordatlaw01" 32, Go.Field.mk "ints" 33 3 false "" "concordat/concordatlaw01" 56, Go.Field.mk "texts" 34 4 false "" "concordat/concordatlaw01" 80, Go.Field.mk "rows" 35 5 false "" "concordat/concordatlaw01" 104, Go.Field.mk "ops" 36 6 false "" "concordat/concordatlaw01" 128, Go.Field.mk "spans" 37 7 false "" "concordat/concordatlaw01" 152, Go.Field.mk "changes" 38 8 false "" "concordat/concordatlaw01" 176, Go.Field.mk "results" 39 9 false "" "concordat/concordatlaw01" 200, Go.Field.mk "msgs" 40 10 false "" "concordat/concordatlaw01" 224, Go.Field.mk "parts" 41 11 false "" "concordat/concordatlaw01" 248, Go.Field.mk "deeds" 42 12 false "" "concordat/concordatlaw01" 272]), (45, .slice 5), (46, .int .u64), (62, .int .u16), (63, .slice 73), (66, .slice 45), (73, .struct #[Go.Field.mk "Kind" 5 0 false "" "" 0, Go.Field.mk "B" 45 1 false "" "" 8, Go.Field.mk "N" 3 2 false "" "" 32, Go.Field.mk "Keep" 46 3 false "" "" 40])],
 [(3, 1), (5, 1), (44, 13), (45, 1), (46, 1), (73, 4)]⟩
theorem orc_ok : orc.Ok Tryz.prog := ⟨⟨Tryz.underlying3, Tryz.underlying4, Tryz.underlying5, Tryz.underlying44, Tryz.underlying45, Tryz.underlying46, Tryz.underlying62, Tryz.underlying63, Tryz.underlying66, Tryz.underlying73, trivial⟩, ⟨by kernel_rfl, by kernel_rfl, by kernel_rfl, by kernel_rfl, by kernel_rfl, by kernel_rfl, trivial⟩⟩
theorem en9 : Enters Tryz.prog 9 := fun _ _ => by kernel_rfl
theorem en10 : Enters Tryz.prog 10 := fun _ _ => by kernel_rfl
theorem en11 : Enters Tryz.prog 11 := fun _ _ => by kernel_rfl
theorem en12 : Enters Tryz.prog 12 := fun _ _ => by kernel_rfl
theorem en13 : Enters Tryz.prog 13 := fun _ _ => by kernel_rfl
theorem en16 : Enters Tryz.prog 16 := fun _ _ => by kernel_rfl
theorem en17 : Enters Tryz.prog 17 := fun _ _ => by kernel_rfl
theorem en18 : Enters Tryz.prog 18 := fun _ _ => by kernel_rfl
theorem en19 : Enters Tryz.prog 19 := fun _ _ => by kernel_rfl
theorem en20 : Enters Tryz.prog 20 := fun _ _ => by kernel_rfl
theorem en21 : Enters Tryz.prog 21 := fun _ _ => by kernel_rfl
theorem en23 : Enters Tryz.prog 23 := fun _ _ => by kernel_rfl
theorem en24 : Enters Tryz.prog 24 := fun _ _ => by kernel_rfl
theorem en25 : Enters Tryz.prog 25 := fun _ _ => by kernel_rfl
theorem en26 : Enters Tryz.prog 26 := fun _ _ => by kernel_rfl
theorem en27 : Enters Tryz.prog 27 := fun _ _ => by kernel_rfl
theorem en28 : Enters Tryz.prog 28 := fun _ _ => by kernel_rfl
theorem en29 : Enters Tryz.prog 29 := fun _ _ => by kernel_rfl
theorem en30 : Enters Tryz.prog 30 := fun _ _ => by kernel_rfl
theorem en31 : Enters Tryz.prog 31 := fun _ _ => by kernel_rfl
theorem en32 : Enters Tryz.prog 32 := fun _ _ => by kernel_rfl
theorem en33 : Enters Tryz.prog 33 := fun _ _ => by kernel_rfl
theorem en34 : Enters Tryz.prog 34 := fun _ _ => by kernel_rfl
theorem en35 : Enters Tryz.prog 35 := fun _ _ => by kernel_rfl
theorem en36 : Enters Tryz.prog 36 := fun _ _ => by kernel_rfl
theorem en37 : Enters Tryz.prog 37 := fun _ _ => by kernel_rfl
theorem zero73 : ∀ W, (zeroValue 73).run Tryz.prog W = .ok (.agg ([Value.int .u8 0, Value.slice none 0 0, Value.int .i64 0, Value.int .u64 0] : List Value).toArray) W := fun _ => by kernel_rfl
set_option maxRecDepth 100000 in
set_option maxHeartbeats 4000000 in
theorem great.walk (k : Nat) (A0 : Option Addr) (c0 : Nat) (l0 : List (Int × List (Int) × Int × Int × Unit)) {w0 w : World} {R : List Asn} (rk0 : Rdr.Row (Rdr.pair (Rdr.int .u8) (Rdr.pair (Rdr.sl (Rdr.int .u8)) (Rdr.pair (Rdr.int .i64) (Rdr.pair (Rdr.int .u64) Rdr.unit)))) w A0 l0) (m0 : l0.length ≤ c0 ∧ c0 ≤ maxLen) (S : Sat w0 w R) {r : Bool} (h : great.f k l0 = some r) :
  Calls Tryz.prog 27 #[(.slice A0 (List.length l0) c0)] w fun e w' => e = .returned (.bool r) ∧ vok (.bool r) = true ∧ Sat w0 w' R := by
 have key : ∀ w0 : World, w0 = w → Sat w0 w [] → Calls Tryz.prog 27 #[(.slice A0 (List.length l0) c0)] w fun e w' => e = .returned (.bool r) ∧ vok (.bool r) = true ∧ Sat w0 w' [] := by
  clear S
  intro w0 hw S
  rw [← hw] at rk0
  clear hw
  unfold great.f at h
  refine calls_start (N := 25) [(.slice A0 (List.length l0) c0)] Tryz.func27 rfl rfl rfl (vok_c (vok_sl m0) rfl) fun a fr => ?_
  refine wp_seq ?_
  refine wp_region_lit ?_
  refine wl_run orc_ok 1 rfl fr fun a fr => ?_
  refine wpList_nil ?_
  refine then_n ?_
  refine wp_seq ?_
  refine wp_region_lit ?_
  refine wl_run orc_ok 1 rfl fr fun a fr => ?_
  refine wpList_nil ?_
  refine then_n ?_
  refine wp_seq ?_
  refine wp_seq ?_
  refine wp_region_lit ?_
  refine wl_run orc_ok 1 rfl fr fun a fr => ?_
  refine wpList_nil ?_
  refine then_n ?_
  refine wp_block ?_
  refine cw_loop (fun k1 a w => ∃ x1 : Int, ∃ x2 : Int, Fr 25 a [(0, (.slice A0 (List.length l0) c0)), (3, (.int .i64 x1)), (4, (.int .i64 x2))] ∧ Sat w0 w [] ∧ (great.l1 k1 l0 x1 x2) = some r) k ⟨(0 : Int), (0 : Int), fr.sub ⟨rfl, rfl, rfl, trivial⟩, S, h⟩ ?_ ?_
  ·rintro a w ⟨x1, x2, -, -, h⟩
   simp only [great.l1] at h
   cases h
  ·rintro k1 a w ⟨x1, x2, fr, S, h⟩
   rw [great.l1] at h
   refine wp_seq ?_
   refine wp_seq ?_
   refine wp_region_lit ?_
   refine wl_run orc_ok 4 rfl fr fun a fr => ?_
   refine wpList_nil ?_
   refine then_n ?_
   refine cw_if fr rfl h (fun h => ?_) (fun h => ?_)
   ·refine wp_skip ?_
    refine then_n ?_
    refine wp_seq ?_
    refine wp_block ?_
    refine wp_seq ?_
    refine wp_region_lit ?_
    refine wl_run orc_ok 4 rfl fr fun a fr => ?_
    obtain ⟨hc, h⟩ := ifs h
    obtain ⟨cs5, rq5, cq5⟩ := rs_get rk0 hc
    obtain ⟨y6, hx, h⟩ := lt_h h
    rw [hx] at rq5
    obtain ⟨pq5_0, qq5_0, eq5_0, fq5_0, gq5_0⟩ := rq5
    obtain ⟨zq5_0, vq5_0⟩ := fq5_0
    obtain ⟨pq5_1, qq5_1, eq5_1, fq5_1, gq5_1⟩ := gq5_0
    obtain ⟨A7, c8, zq5_1, hcq5_1, hmq5_1, rq5_1⟩ := fq5_1
    have mq5_1 := And.intro hcq5_1 hmq5_1
    have rq5_1 := rk_of_row rq5_1
    obtain ⟨pq5_2, qq5_2, eq5_2, fq5_2, gq5_2⟩ := gq5_1
    obtain ⟨zq5_2, vq5_2⟩ := fq5_2
    obtain ⟨pq5_3, qq5_3, eq5_3, fq5_3, gq5_3⟩ := gq5_2
    obtain ⟨zq5_3, vq5_3⟩ := fq5_3
    have uq5 : qq5_3 = [] := gq5_3
    have ec5 : cs5 = [((.int .u8 y6.1)), ((.slice A7 (List.length y6.2.1) c8)), ((.int .i64 y6.2.2.1)), ((.int .u64 y6.2.2.2.1))] := by rw [eq5_0, zq5_0, eq5_1, zq5_1, eq5_2, zq5_2, eq5_3, zq5_3, uq5]; rfl
    rw [ec5] at cq5
    obtain ⟨ad5, ha5, cc5⟩ := cq5
    have fr := fr.spell (d := 13) rfl (congrArg (fun z => Value.slice z (List.length l0) c0) ha5)
    refine wl_val fr rfl rfl rfl (indexAddr_run orc_ok fr rfl rfl rfl rfl rfl hc.1 hc.2 _) rfl fun a fr => ?_
    refine wl_run orc_ok 1 rfl fr fun a fr => ?_
    refine wl_ldf orc_ok (v := (.slice A7 (List.length y6.2.1) c8)) ⟨by rw [add_add]; exact RR.cellAt S.below (cc5 1 _ rfl), (vok_sl (A := A7) mq5_1)⟩ fr rfl rfl rfl rfl rfl rfl rfl fun a fr => ?_
    refine wl_run orc_ok 3 rfl fr fun a fr => ?_
    obtain ⟨y9, hx, h⟩ := lt_h h
    have fr := fr.spell (d := 3) rfl (congrArg (Value.int .i64) hx)
    refine wpList_nil ?_
    refine then_n ?_
    refine wp_seq ?_
    refine wp_region_lit ?_
    refine wl_run orc_ok 2 rfl fr fun a fr => ?_
    refine wpList_nil ?_
    refine then_n ?_
    refine cw_if fr rfl h (fun h => ?_) (fun h => ?_)
    ·refine wp_seq ?_
     refine wp_region_lit ?_
     refine wl_run orc_ok 1 rfl fr fun a fr => ?_
     refine wpList_nil ?_
     refine then_n ?_
     refine wp_ret ?_
     refine blk_r ?_
     refine then_r ?_
     refine then_r ?_
     refine blk_r ?_
     refine then_r ?_
     injection h with h
     subst h
     refine ret1 fr rfl rfl ?_
     exact ⟨rfl, fr.vok (d := 2) rfl, S.mask []⟩
    ·refine wp_skip ?_
     refine blk_n ?_
     refine then_n ?_
     refine wp_region_lit ?_
     refine wl_run orc_ok 3 rfl fr fun a fr => ?_
     refine wpList_nil ?_
     exact ⟨y9, (IntKind.wrap .i64 (x2 + (1 : Int))), fr.sub ⟨rfl, rfl, rfl, trivial⟩, S, h⟩
   ·refine wp_exit ?_
    refine then_e ?_
    refine then_e ?_
    refine blk_y ?_
    refine then_n ?_
    refine wp_seq ?_
    refine wp_region_lit ?_
    refine wl_run orc_ok 4 rfl fr fun a fr => ?_
    obtain ⟨y10, hx, h⟩ := lt_h h
    have fr := fr.spell (d := 2) rfl (congrArg Value.bool hx)
    refine wpList_nil ?_
    refine then_n ?_
    refine wp_ret ?_
    injection h with h
    subst h
    refine ret1 fr rfl rfl ?_
    exact ⟨rfl, fr.vok (d := 2) rfl, S.mask []⟩
 exact (key w rfl (Sat.start w)).mono fun e w' ⟨h1, h2, h3⟩ => ⟨h1, h2, S.new h3.below⟩
set_option maxRecDepth 100000 in
set_option maxHeartbeats 4000000 in
theorem WallsPlay.walk (k : Nat) (a0 : Int) (A1 : Option Addr) (c1 : Nat) (l1 : List (Int × List (Int) × Int × Int × Unit)) {w0 w : World} {R : List Asn} (v0 : (Lit.int .u16 a0).wf = true) (rk1 : Rdr.Row (Rdr.pair (Rdr.int .u8) (Rdr.pair (Rdr.sl (Rdr.int .u8)) (Rdr.pair (Rdr.int .i64) (Rdr.pair (Rdr.int .u64) Rdr.unit)))) w A1 l1) (m1 : l1.length ≤ c1 ∧ c1 ≤ maxLen) (S : Sat w0 w R) {r : Bool} (h : WallsPlay.f k a0 l1 = some r) :
  Calls Tryz.prog 4 #[(.int .u16 a0), (.slice A1 (List.length l1) c1)] w fun e w' => e = .returned (.bool r) ∧ vok (.bool r) = true ∧ Sat w0 w' R := by
 have key : ∀ w0 : World, w0 = w → Sat w0 w [] → Calls Tryz.prog 4 #[(.int .u16 a0), (.slice A1 (List.length l1) c1)] w fun e w' => e = .returned (.bool r) ∧ vok (.bool r) = true ∧ Sat w0 w' [] := by
  clear S
  intro w0 hw S
  rw [← hw] at rk1
  clear hw
  unfold WallsPlay.f at h
  refine calls_start (N := 237) [(.int .u16 a0), (.slice A1 (List.length l1) c1)] Tryz.func4 rfl rfl rfl (vok_c v0 (vok_c (vok_sl m1) rfl)) fun a fr => ?_
  refine wp_seq ?_
  refine wp_region_lit ?_
  refine wl_run orc_ok 1 rfl fr fun a fr => ?_
  refine wpList_nil ?_
  refine then_n ?_
  refine wp_seq ?_
  refine wp_region_lit ?_
  refine wl_run orc_ok 5 rfl fr fun a fr => ?_
  obtain ⟨y1, hx, h⟩ := lt_h h
  have fr := fr.spell (d := 5) rfl (congrArg (Value.int .i64) hx)
  refine wpList_nil ?_
  refine then_n ?_
  refine wp_seq ?_
  refine wp_seq ?_
  refine wp_region_lit ?_
  refine wl_run orc_ok 1 rfl fr fun a fr => ?_
  obtain ⟨r2, hr, h⟩ := bnd h
  refine wl_call fr rfl rfl rfl rfl en27 (great.walk k A1 c1 l1 (Rdr.Row.keep rk1 S.below) (fr.slice (d := 36) rfl) S hr) ?_
  rintro _ w ⟨rfl, hv, S⟩
  refine ⟨_, rfl, hv, fun a fr => ?_⟩
  refine wpList_nil ?_
  refine then_n ?_
  refine cw_if fr rfl h (fun h => ?_) (fun h => ?_)
  ·refine wp_seq ?_
   refine wp_region_lit ?_
   refine wl_run orc_ok 1 rfl fr fun a fr => ?_
   refine wpList_nil ?_
   refine then_n ?_
   refine wp_ret ?_
   refine then_r ?_
   injection h with h
   subst h
   refine ret1 fr rfl rfl ?_
   exact ⟨rfl, fr.vok (d := 4) rfl, S.mask []⟩
  ·refine wp_skip ?_
   refine then_n ?_
   refine wp_seq ?_
   refine wp_region_lit ?_
   refine wl_run orc_ok 1 rfl fr fun a fr => ?_
   obtain ⟨hc, h⟩ := ifs h
   obtain ⟨D3, hn0, h⟩ := lt_h h
   have H := disk_new S hc
   rw [hn0] at H
   refine wl_call fr rfl rfl rfl rfl en9 H ?_
   clear H
   rintro _ w ⟨g4, rfl, S⟩
   refine ⟨_, rfl, rfl, fun a fr => ?_⟩
   refine wl_run orc_ok 5 rfl fr fun a fr => ?_
   refine wpList_nil ?_
   refine then_n ?_
   refine wp_seq ?_
   refine wp_region_lit ?_
   refine wl_run orc_ok 1 rfl fr fun a fr => ?_
   obtain ⟨hc, h⟩ := ifs h
   obtain ⟨D5, hn0, h⟩ := lt_h h
   have H := ds_new (fr.int (d := 44) rfl) hc S
   rw [hn0] at H
   refine wl_call fr rfl rfl rfl rfl en10 H ?_
   clear H
   rintro _ w ⟨g6, rfl, S⟩
   refine ⟨_, rfl, rfl, fun a fr => ?_⟩
   refine wl_run orc_ok 5 rfl fr fun a fr => ?_
   refine wpList_nil ?_
   refine then_n ?_
   refine wp_seq ?_
   refine wp_seq ?_
   refine wp_region_lit ?_
   refine wl_run orc_ok 6 rfl fr fun a fr => ?_
   refine wpList_nil ?_
   refine then_n ?_
   refine cw_f fr rfl ?_
   refine wp_skip ?_
   refine then_n ?_
   refine wp_seq ?_
   refine wp_region_lit ?_
   refine wl_run orc_ok 1 rfl fr fun a fr => ?_
   have S := S.frontAt 1 rfl
   obtain ⟨hc, h⟩ := ifs h
   obtain ⟨p7, hn0, h⟩ := lt_h h
   obtain ⟨x8, hn1, h⟩ := lt_h h
   obtain ⟨D9, hn2, h⟩ := lt_h h
   have H := open_call S hc
   rw [hn0, hn1, hn2] at H
   refine wl_call fr rfl rfl rfl rfl en28 H ?_
   clear H
   rintro _ w ⟨g12, A10, c11, rfl, hv, S⟩
   refine ⟨_, rfl, hv, fun a fr => ?_⟩
   refine wl_run orc_ok 7 rfl fr fun a fr => ?_
   refine wpList_nil ?_
   refine then_n ?_
   refine wp_seq ?_
   refine wp_region_lit ?_
   refine wl_run orc_ok 1 rfl fr fun a fr => ?_
   have S := S.frontAt 3 rfl
   obtain ⟨hc, h⟩ := ifs h
   obtain ⟨p13, hn0, h⟩ := lt_h h
   obtain ⟨x14, hn1, h⟩ := lt_h h
   obtain ⟨D15, hn2, h⟩ := lt_h h
   have H := r6_open hc.1 hc.2 S
   rw [hn0, hn1, hn2] at H
   refine wl_call fr rfl rfl rfl rfl en29 H ?_
   clear H
   rintro _ w ⟨g18, A16, c17, rfl, hv, S⟩
   refine ⟨_, rfl, hv, fun a fr => ?_⟩
   refine wl_run orc_ok 5 rfl fr fun a fr => ?_
   refine wpList_nil ?_
   refine then_n ?_
   refine wp_seq ?_
   refine wp_seq ?_
   refine wp_region_lit ?_
   refine wl_run orc_ok 7 rfl fr fun a fr => ?_
   refine wpList_nil ?_
   refine then_n ?_
   refine cw_if fr rfl h (fun h => ?_) (fun h => ?_)
   ·cases h
   ·refine wp_skip ?_
    refine then_n ?_
    refine wp_seq ?_
    refine wp_region_lit ?_
    refine wl_build (cs := (Value.int .i64 0 :: List.replicate 12 (Value.slice none 0 0))) (L2 := []) fr rfl rfl rfl rfl (by simp) (by kernel_rfl) rfl fun a fr => ?_
    refine wl_allocg fr rfl rfl rfl rfl zeroBook rfl S ?_
    intro w g19 S a fr
    refine wl_stg orc_ok (cs := (Value.int .i64 0 :: List.replicate 12 (Value.slice none 0 0))) (vs := (Value.int .i64 0 :: List.replicate 12 (Value.slice none 0 0))) fr rfl rfl rfl rfl rfl rfl rfl rfl S ?_
    intro w S
    have S := S.newBook
    refine wpList_nil ?_
    refine then_n ?_
    refine wp_seq ?_
    refine wp_seq ?_
    refine wp_region_lit ?_
    refine wl_run orc_ok 1 rfl fr fun a fr => ?_
    refine wpList_nil ?_
    refine then_n ?_
    refine wp_block ?_
    have S : Sat w0 _ [bookA g19 (0 : Int), rlgA g18 g6 x14, ddsA g6 D15, logA g12 g4 x8, diskA g4 D9] := S.mask [true, true, false, true, true, false, true]
    have S := S.frontAt 4 rfl
    have S := S.frontAt 4 rfl
    have S := S.frontAt 4 rfl
    have S := S.frontAt 4 rfl
    have S := S.frontAt 4 rfl
    refine cw_loop (fun k1 a w => ∃ x20 : Int, ∃ g21 : Nat, ∃ x22 : Int, ∃ g23 : Nat, ∃ D24 : Dk, ∃ g25 : Nat, ∃ x26 : Int, ∃ g27 : Nat, ∃ D28 : Dk, ∃ x29 : Int, Fr 237 a [(1, (.slice A1 (List.length l1) c1)), (5, (.int .i64 y1)), (6, (.pointer (some ⟨g27, 0, none⟩))), (8, (.pointer (some ⟨g23, 0, none⟩))), (10, (.pointer (some ⟨g25, 0, none⟩))), (12, (.pointer (some ⟨g21, 0, none⟩))), (14, (.pointer (some ⟨g19, 0, none⟩))), (15, (.int .i64 x29))] ∧ Sat w0 w [bookA g19 x20, rlgA g21 g23 x22, ddsA g23 D24, logA g25 g27 x26, diskA g27 D28] ∧ (WallsPlay.l1 k1 l1 y1 x20 x22 D24 x26 D28 x29) = some r) k ⟨(0 : Int), g18, x14, g6, D15, g12, x8, g4, D9, (0 : Int), fr.sub ⟨rfl, rfl, rfl, rfl, rfl, rfl, rfl, rfl, trivial⟩, S, h⟩ ?_ ?_
    ·rintro a w ⟨x20, g21, x22, g23, D24, g25, x26, g27, D28, x29, -, -, h⟩
     simp only [WallsPlay.l1] at h
     cases h
    ·rintro k1 a w ⟨x20, g21, x22, g23, D24, g25, x26, g27, D28, x29, fr, S, h⟩
     rw [WallsPlay.l1] at h
     refine wp_seq ?_
     refine wp_seq ?_
     refine wp_region_lit ?_
     refine wl_run orc_ok 4 rfl fr fun a fr => ?_
     refine wpList_nil ?_
     refine then_n ?_
     refine cw_if fr rfl h (fun h => ?_) (fun h => ?_)
     ·refine wp_skip ?_
      refine then_n ?_
      refine wp_seq ?_
      refine wp_block ?_
      refine wp_seq ?_
      refine wp_region_lit ?_
      refine wl_run orc_ok 2 rfl fr fun a fr => ?_
      obtain ⟨hc, h⟩ := ifs h
      obtain ⟨cs40, rq40, cq40⟩ := rs_get rk1 hc
      obtain ⟨y41, hx, h⟩ := lt_h h
      rw [hx] at rq40
      obtain ⟨pq40_0, qq40_0, eq40_0, fq40_0, gq40_0⟩ := rq40
      obtain ⟨zq40_0, vq40_0⟩ := fq40_0
      obtain ⟨pq40_1, qq40_1, eq40_1, fq40_1, gq40_1⟩ := gq40_0
      obtain ⟨A42, c43, zq40_1, hcq40_1, hmq40_1, rq40_1⟩ := fq40_1
      have mq40_1 := And.intro hcq40_1 hmq40_1
      have rq40_1 := rk_of_row rq40_1
      obtain ⟨pq40_2, qq40_2, eq40_2, fq40_2, gq40_2⟩ := gq40_1
      obtain ⟨zq40_2, vq40_2⟩ := fq40_2
      obtain ⟨pq40_3, qq40_3, eq40_3, fq40_3, gq40_3⟩ := gq40_2
      obtain ⟨zq40_3, vq40_3⟩ := fq40_3
      have uq40 : qq40_3 = [] := gq40_3
      have ec40 : cs40 = [(.int .u8 y41.1), (.slice A42 (List.length y41.2.1) c43), (.int .i64 y41.2.2.1), (.int .u64 y41.2.2.2.1)] := by rw [eq40_0, zq40_0, eq40_1, zq40_1, eq40_2, zq40_2, eq40_3, zq40_3, uq40]; rfl
      rw [ec40] at cq40
      refine wl_ldrs orc_ok (i := x29) (z := 4) (cq40.imp fun _ h => ⟨h.1, fun j u hu => RR.cellAt S.below (h.2 j u hu)⟩) (vok1_ag (vok1_c (v := (.int .u8 y41.1)) vq40_0 (vok1_c (v := (.slice A42 (List.length y41.2.1) c43)) (vok_sl (A := A42) mq40_1) (vok1_c (v := (.int .i64 y41.2.2.1)) vq40_2 (vok1_c (v := (.int .u64 y41.2.2.2.1)) vq40_3 rfl))))) fr rfl rfl rfl rfl rfl rfl rfl rfl rfl rfl rfl rfl rfl rfl rfl rfl hc fun a fr => ?_
      refine wl_allocg fr rfl rfl rfl rfl zero73 rfl S ?_
      intro w g44 S a fr
      refine wl_stu orc_ok (cs := [Value.int .u8 0, Value.slice none 0 0, Value.int .i64 0, Value.int .u64 0]) (vs := [(.int .u8 y41.1), (.slice A42 (List.length y41.2.1) c43), (.int .i64 y41.2.2.1), (.int .u64 y41.2.2.2.1)]) fr rfl rfl rfl rfl rfl rfl rfl rfl (by simp only [List.all_cons, List.all_nil, Bool.and_true, Bool.and_eq_true]; exact ⟨vq40_0, (vok_sl (A := A42) mq40_1), vq40_2, vq40_3⟩) S ?_
      intro w S
      refine wpList_nil ?_
      refine then_n ?_
      refine wp_seq ?_
      refine wp_region_lit ?_
      refine wl_run orc_ok 1 rfl fr fun a fr => ?_
      refine wl_ldf orc_ok (Sat.stAt S 0 rfl rfl) fr rfl rfl rfl rfl rfl rfl rfl fun a fr => ?_
      obtain ⟨hc, h⟩ := ifs h
      refine wl_call fr rfl rfl rfl rfl en11 (twinb_call (Rk.at rq40_1 S) hc S) ?_
      rintro _ w ⟨A45, c46, rfl, hv, S⟩
      refine ⟨_, rfl, hv, fun a fr => ?_⟩
      refine wl_run orc_ok 1 rfl fr fun a fr => ?_
      refine wpList_nil ?_
      refine then_n ?_
      refine cw_cut (fun a w => ∃ g47 : Nat, ∃ x48 : Int, ∃ g49 : Nat, ∃ D50 : Dk, ∃ g51 : Nat, ∃ x52 : Int, ∃ g53 : Nat, ∃ D54 : Dk, ∃ x55 : Int, Fr 237 a [(1, (.slice A1 (List.length l1) c1)), (5, (.int .i64 y1)), (6, (.pointer (some ⟨g53, 0, none⟩))), (8, (.pointer (some ⟨g49, 0, none⟩))), (10, (.pointer (some ⟨g51, 0, none⟩))), (12, (.pointer (some ⟨g47, 0, none⟩))), (14, (.pointer (some ⟨g19, 0, none⟩))), (15, (.int .i64 x29)), (16, (.pointer (some ⟨g44, 0, none⟩))), (17, (.slice A45 (List.length y41.2.1) c46))] ∧ Sat w0 w [rlgA g47 g49 x48, ddsA g49 D50, logA g51 g53 x52, diskA g53 D54, twbA A45 c46 y41.2.1, stA 73 g44 [(.int .u8 y41.1), (.slice A42 (List.length y41.2.1) c43), (.int .i64 y41.2.2.1), (.int .u64 y41.2.2.2.1)], bookA g19 x55] ∧ (WallsPlay.j1 (WallsPlay.l1 k1 l1 y1) y41 x29 x48 D50 x52 D54 x55) = some r) ?_ ?_
      ·refine wp_seq ?_
       refine wp_region_lit ?_
       refine wl_run orc_ok 1 rfl fr fun a fr => ?_
       refine wl_ldf orc_ok (Sat.stAt S 1 rfl rfl) fr rfl rfl rfl rfl rfl rfl rfl fun a fr => ?_
       refine wl_run orc_ok 1 rfl fr fun a fr => ?_
       refine wpList_nil ?_
       refine then_n ?_
       refine wp_block ?_
       refine wp_seq ?_
       refine wp_seq ?_
       refine wp_region_lit ?_
       refine wl_run orc_ok 2 rfl fr fun a fr => ?_
       refine wpList_nil ?_
       refine then_n ?_
       refine cw_if fr rfl h (fun h => ?_) (fun h => ?_)
       ·refine wp_skip ?_
        refine then_n ?_
        refine cw_if fr rfl h (fun h => ?_) (fun h => ?_)
        ·refine wp_seq ?_
         refine wp_region_sl [.one (0, true, some 101), .one (1, true, some 102), .one (3, true, some 104), .one (4, true, some 105), .one (5, true, some 106), .one (2, false, some 103), .one (6, false, some 107), .one (7, true, some 108)]
          [.one ⟨true, some 101, (Go.Op.move (Go.Operand.tmp 10)), 65, none⟩,
  .one ⟨true, some 102, (Go.Op.move (Go.Operand.tmp 17)), 45, none⟩,
  .one ⟨true, some 104, (Go.Op.move (Go.Operand.tmp 12)), 69, none⟩,
  .one ⟨true, some 105, (Go.Op.fieldAddr 73 (Go.Operand.tmp 16) 1), 0, none⟩,
  .one ⟨true, some 106, (Go.Op.load 45 (Go.Operand.tmp 105)), 45, none⟩,
  .one ⟨false, some 103, (Go.Op.call { callee := (Go.Callee.value (Go.Operand.func 30)), args := #[(Go.Operand.tmp 101), (Go.Operand.tmp 102)], argTypes := #[65, 45] }), 25, none⟩,
  .one ⟨false, some 107, (Go.Op.call { callee := (Go.Callee.value (Go.Operand.func 31)), args := #[(Go.Operand.tmp 104), (Go.Operand.tmp 106)], argTypes := #[69, 45] }), 25, none⟩,
  .one ⟨true, some 108, (Go.Op.binOp Go.BinOp.neq 25 (Go.Operand.tmp 103) (Go.Operand.tmp 107) 25), 4, none⟩]
          (fun w => Sat w0 w [stA 73 g44 [(.int .u8 y41.1), (.slice A42 (List.length y41.2.1) c43), (.int .i64 y41.2.2.1), (.int .u64 y41.2.2.2.1)], bookA g19 x20]) rfl (by kernel_rfl) (by kernel_rfl) (S.drew.mask [false, true, true, false, false, false, false]) ?_
         have S := S.drew
         refine sl_run orc_ok 4 rfl fr fun a fr => ?_
         refine sl_ldf orc_ok (fun _ S => Sat.stAt S 0 rfl rfl) fr rfl rfl rfl rfl rfl rfl rfl rfl (Sat.mask S [false, true, true, false, false, false, false]) fun a fr => ?_
         have S := S.frontAt 6 rfl
         have S := S.frontAt 6 rfl
         obtain ⟨hc, h⟩ := ifs h
         obtain ⟨y57, hn0, h⟩ := lt_h h
         obtain ⟨x58, hn1, h⟩ := lt_h h
         obtain ⟨D59, hn2, h⟩ := lt_h h
         have H := add_callI (A := A45) (c := c46) (l := y41.2.1) S (Sat.twbAt S 2 rfl) (fr.slice (d := 102) rfl) hc
         rw [hn0, hn1, hn2] at H
         refine sl_call fr rfl rfl rfl rfl rfl en30 H ?_
         clear H
         rintro _ w ⟨rfl, hv, S⟩
         refine ⟨_, rfl, hv, (Sat.mask S [false, false, false, true, true, false, false]), fun a fr => ?_⟩
         have S := S.frontAt 6 rfl
         have S := S.frontAt 6 rfl
         obtain ⟨hc, h⟩ := ifs h
         obtain ⟨y60, hn0, h⟩ := lt_h h
         obtain ⟨x61, hn1, h⟩ := lt_h h
         obtain ⟨D62, hn2, h⟩ := lt_h h
         have H := r6_addI (A := A42) (c := c43) (l := y41.2.1) (fun _ S => Rk.at rq40_1 S) (fr.slice (d := 106) rfl) hc S
         rw [hn0, hn1, hn2] at H
         refine sl_call fr rfl rfl rfl rfl rfl en31 H ?_
         clear H
         rintro _ w ⟨rfl, hv, S⟩
         refine ⟨_, rfl, hv, (Sat.mask S [false, false, false, false, false, true, true]), fun a fr => ?_⟩
         refine sl_run orc_ok 1 rfl fr fun a fr => ?_
         refine sl_end ?_
         refine then_n ?_
         refine cw_if fr rfl h (fun h => ?_) (fun h => ?_)
         ·cases h
         ·refine wp_skip ?_
          refine blk_n ?_
          exact ⟨g21, x61, g23, D62, g25, x58, g27, D59, x20, fr.sub ⟨rfl, rfl, rfl, rfl, rfl, rfl, rfl, rfl, rfl, rfl, trivial⟩, S, h⟩
        ·refine wp_seq ?_
         refine wp_region_lit ?_
         refine wl_run orc_ok 2 rfl fr fun a fr => ?_
         refine wpList_nil ?_
         refine then_n ?_
         refine cw_if fr rfl h (fun h => ?_) (fun h => ?_)
         ·refine wp_seq ?_
          refine wp_region_lit ?_
          refine wl_run orc_ok 1 rfl fr fun a fr => ?_
          have S := S.frontAt 6 rfl
          have S := S.frontAt 6 rfl
          obtain ⟨D63, hn0, h⟩ := lt_h h
          have H := force_call S
          rw [hn0] at H
          refine wl_call fr rfl rfl rfl rfl en32 H ?_
          clear H
          rintro _ w ⟨rfl, S⟩
          refine ⟨_, rfl, rfl, fun a fr => ?_⟩
          refine wl_run orc_ok 1 rfl fr fun a fr => ?_
          have S := S.frontAt 6 rfl
          have S := S.frontAt 6 rfl
          obtain ⟨hc, h⟩ := ifs h
          obtain ⟨D64, hn0, h⟩ := lt_h h
          have H := r6_force hc S
          rw [hn0] at H
          refine wl_call fr rfl rfl rfl rfl en33 H ?_
          clear H
          rintro _ w ⟨rfl, S⟩
          refine ⟨_, rfl, rfl, fun a fr => ?_⟩
          refine wl_run orc_ok 1 rfl fr fun a fr => ?_
          refine wpList_nil ?_
          refine then_n ?_
          refine cw_f fr rfl ?_
          refine wp_skip ?_
          refine blk_n ?_
          exact ⟨g21, x22, g23, D64, g25, x26, g27, D63, x20, fr.sub ⟨rfl, rfl, rfl, rfl, rfl, rfl, rfl, rfl, rfl, rfl, trivial⟩, S, h⟩
         ·refine wp_seq ?_
          refine wp_seq ?_
          refine wp_region_lit ?_
          refine wl_run orc_ok 2 rfl fr fun a fr => ?_
          refine wpList_nil ?_
          refine then_n ?_
          refine cw_if fr rfl h (fun h => ?_) (fun h => ?_)
          ·refine wp_skip ?_
           refine then_n ?_
           refine cw_if fr rfl h (fun h => ?_) (fun h => ?_)
           ·refine cw_cut (fun a w => ∃ g65 : Nat, ∃ D66 : Dk, ∃ g67 : Nat, ∃ D68 : Dk, Fr 237 a [(1, (.slice A1 (List.length l1) c1)), (5, (.int .i64 y1)), (6, (.pointer (some ⟨g67, 0, none⟩))), (8, (.pointer (some ⟨g65, 0, none⟩))), (14, (.pointer (some ⟨g19, 0, none⟩))), (15, (.int .i64 x29)), (16, (.pointer (some ⟨g44, 0, none⟩))), (17, (.slice A45 (List.length y41.2.1) c46))] ∧ Sat w0 w [ddsA g65 D66, diskA g67 D68, twbA A45 c46 y41.2.1, stA 73 g44 [(.int .u8 y41.1), (.slice A42 (List.length y41.2.1) c43), (.int .i64 y41.2.2.1), (.int .u64 y41.2.2.2.1)], bookA g19 x20] ∧ (WallsPlay.j2 (WallsPlay.l1 k1 l1 y1) y41 x20 x29 D66 D68) = some r) ?_ ?_
            ·refine wp_seq ?_
             refine wp_region_lit ?_
             refine wl_run orc_ok 1 rfl fr fun a fr => ?_
             refine wl_ldf orc_ok (Sat.stAt S 1 rfl rfl) fr rfl rfl rfl rfl rfl rfl rfl fun a fr => ?_
             refine wl_run orc_ok 2 rfl fr fun a fr => ?_
             refine wpList_nil ?_
             refine then_n ?_
             refine cw_if fr rfl h (fun h => ?_) (fun h => ?_)
             ·refine wp_seq ?_
              refine wp_region_lit ?_
              refine wl_run orc_ok 2 rfl fr fun a fr => ?_
              refine wl_ldf orc_ok (Sat.stAt S 1 rfl rfl) fr rfl rfl rfl rfl rfl rfl rfl fun a fr => ?_
              refine wl_run orc_ok 1 rfl fr fun a fr => ?_
              refine wl_ldf orc_ok (Sat.stAt S 1 rfl rfl) fr rfl rfl rfl rfl rfl rfl rfl fun a fr => ?_
              refine wl_run orc_ok 1 rfl fr fun a fr => ?_
              have S := S.frontAt 6 rfl
              obtain ⟨hc, h⟩ := ifs h
              refine wl_call fr rfl rfl rfl rfl en20 (disk_fail S (fr.int (d := 127) rfl) (fr.int (d := 130) rfl) hc) ?_
              rintro _ w ⟨g87, rfl, S⟩
              refine ⟨_, rfl, rfl, fun a fr => ?_⟩
              obtain ⟨D88, hx, h⟩ := lt_h h
              rw [hx] at S
              refine wl_run orc_ok 5 rfl fr fun a fr => ?_
              refine wpList_nil ?_
              refine then_n ?_
              refine wp_seq ?_
              refine wp_region_lit ?_
              refine wl_run orc_ok 2 rfl fr fun a fr => ?_
              refine wl_ldf orc_ok (Sat.stAt S 3 rfl rfl) fr rfl rfl rfl rfl rfl rfl rfl fun a fr => ?_
              refine wl_run orc_ok 1 rfl fr fun a fr => ?_
              refine wl_ldf orc_ok (Sat.stAt S 3 rfl rfl) fr rfl rfl rfl rfl rfl rfl rfl fun a fr => ?_
              refine wl_run orc_ok 1 rfl fr fun a fr => ?_
              have S := S.frontAt 6 rfl
              obtain ⟨hc, h⟩ := ifs h
              obtain ⟨D89, hn0, h⟩ := lt_h h
              have H := ds_fail (fr.int (d := 137) rfl) (fr.int (d := 140) rfl) hc.1 hc.2 S
              rw [hn0] at H
              refine wl_call fr rfl rfl rfl rfl en21 H ?_
              clear H
              rintro _ w ⟨g90, rfl, S⟩
              refine ⟨_, rfl, rfl, fun a fr => ?_⟩
              refine wl_run orc_ok 5 rfl fr fun a fr => ?_
              refine wpList_nil ?_
              refine then_n ?_
              refine wp_seq ?_
              refine wp_seq ?_
              refine wp_region_lit ?_
              refine wl_run orc_ok 6 rfl fr fun a fr => ?_
              refine wpList_nil ?_
              refine then_n ?_
              refine cw_f fr rfl ?_
              refine wp_skip ?_
              refine then_n ?_
              refine wp_seq ?_
              refine wp_region_lit ?_
              refine wl_run orc_ok 1 rfl fr fun a fr => ?_
              have S : Sat w0 _ [ddsA g90 D89, ddsA g23 D24, diskA g87 D88, twbA A45 c46 y41.2.1, stA 73 g44 [(.int .u8 y41.1), (.slice A42 (List.length y41.2.1) c43), (.int .i64 y41.2.2.1), (.int .u64 y41.2.2.2.1)], bookA g19 x20, rlgA g21 g23 x22] := S.mask [true, true, true, false, true, true, true, true, false]
              refine wl_run orc_ok 1 rfl fr fun a fr => ?_
              refine wpList_nil ?_
              refine then_n ?_
              refine wp_region_lit ?_
              refine wl_run orc_ok 1 rfl fr fun a fr => ?_
              have S : Sat w0 _ [ddsA g90 D89, diskA g87 D88, twbA A45 c46 y41.2.1, stA 73 g44 [(.int .u8 y41.1), (.slice A42 (List.length y41.2.1) c43), (.int .i64 y41.2.2.1), (.int .u64 y41.2.2.2.1)], bookA g19 x20] := S.mask [true, false, true, true, true, true, false]
              refine wl_run orc_ok 1 rfl fr fun a fr => ?_
              refine wpList_nil ?_
              exact ⟨g90, D89, g87, D88, fr.sub ⟨rfl, rfl, rfl, rfl, rfl, rfl, rfl, rfl, trivial⟩, S, h⟩
             ·refine wp_skip ?_
              have S : Sat w0 _ [twbA A45 c46 y41.2.1, stA 73 g44 [(.int .u8 y41.1), (.slice A42 (List.length y41.2.1) c43), (.int .i64 y41.2.2.1), (.int .u64 y41.2.2.2.1)], bookA g19 x20, ddsA g23 D24, diskA g27 D28] := S.mask [true, true, true, false, true, false, true]
              have S := S.frontAt 2 rfl
              have S := S.frontAt 2 rfl
              have S := S.frontAt 2 rfl
              have S := S.frontAt 4 rfl
              have S := S.frontAt 4 rfl
              exact ⟨g23, D24, g27, D28, fr.sub ⟨rfl, rfl, rfl, rfl, rfl, rfl, rfl, rfl, trivial⟩, S, h⟩
            ·rintro a w ⟨g65, D66, g67, D68, fr, S, h⟩
             rw [WallsPlay.j2] at h
             refine cw_cut (fun a w => ∃ D69 : Dk, ∃ D70 : Dk, Fr 237 a [(1, (.slice A1 (List.length l1) c1)), (5, (.int .i64 y1)), (6, (.pointer (some ⟨g67, 0, none⟩))), (8, (.pointer (some ⟨g65, 0, none⟩))), (14, (.pointer (some ⟨g19, 0, none⟩))), (15, (.int .i64 x29)), (16, (.pointer (some ⟨g44, 0, none⟩))), (17, (.slice A45 (List.length y41.2.1) c46))] ∧ Sat w0 w [ddsA g65 D69, diskA g67 D70, twbA A45 c46 y41.2.1, stA 73 g44 [(.int .u8 y41.1), (.slice A42 (List.length y41.2.1) c43), (.int .i64 y41.2.2.1), (.int .u64 y41.2.2.2.1)], bookA g19 x20] ∧ (WallsPlay.j3 (WallsPlay.l1 k1 l1 y1) x20 y41 x29 D69 D70) = some r) ?_ ?_
             ·refine wp_seq ?_
              refine wp_region_sl [.one (0, true, some 152), .one (1, true, some 153), .one (2, true, some 154), .one (3, true, some 155), .one (4, true, some 156), .one (5, true, some 157), .one (6, true, some 158), .one (7, true, some 159), .one (8, true, some 160), .one (10, true, some 162), .one (11, true, some 163), .one (12, true, some 164), .one (13, true, some 165), .one (14, true, some 166), .one (9, false, some 161), .one (15, false, some 167), .one (16, true, some 168), .one (17, true, some 169)]
               [.one ⟨true, some 152, (Go.Op.fieldAddr 73 (Go.Operand.tmp 16) 0), 0, none⟩,
  .one ⟨true, some 153, (Go.Op.load 5 (Go.Operand.tmp 152)), 5, none⟩,
  .one ⟨true, some 154, (Go.Op.binOp Go.BinOp.rem 5 (Go.Operand.tmp 153) (Go.Operand.const (Go.Value.int Go.IntKind.u8 7)) 5), 5, none⟩,
  .one ⟨true, some 155, (Go.Op.binOp Go.BinOp.eql 5 (Go.Operand.tmp 154) (Go.Operand.const (Go.Value.int Go.IntKind.u8 5)) 5), 4, none⟩,
  .one ⟨true, some 156, (Go.Op.move (Go.Operand.tmp 155)), 4, none⟩,
  .one ⟨true, some 157, (Go.Op.move (Go.Operand.tmp 6)), 24, some (156, true)⟩,
  .one ⟨true, some 158, (Go.Op.fieldAddr 73 (Go.Operand.tmp 16) 2), 0, some (156, true)⟩,
  .one ⟨true, some 159, (Go.Op.load 3 (Go.Operand.tmp 158)), 3, some (156, true)⟩,
  .one ⟨true, some 160, (Go.Op.move (Go.Operand.tmp 17)), 45, some (156, true)⟩,
  .one ⟨true, some 162, (Go.Op.move (Go.Operand.tmp 8)), 28, some (156, true)⟩,
  .one ⟨true, some 163, (Go.Op.fieldAddr 73 (Go.Operand.tmp 16) 2), 0, some (156, true)⟩,
  .one ⟨true, some 164, (Go.Op.load 3 (Go.Operand.tmp 163)), 3, some (156, true)⟩,
  .one ⟨true, some 165, (Go.Op.fieldAddr 73 (Go.Operand.tmp 16) 1), 0, some (156, true)⟩,
  .one ⟨true, some 166, (Go.Op.load 45 (Go.Operand.tmp 165)), 45, some (156, true)⟩,
  .one ⟨false, some 161, (Go.Op.call { callee := (Go.Callee.value (Go.Operand.func 12)), args := #[(Go.Operand.tmp 157), (Go.Operand.tmp 159), (Go.Operand.tmp 160)], argTypes := #[24, 3, 45] }), 25, some (156, true)⟩,
  .one ⟨false, some 167, (Go.Op.call { callee := (Go.Callee.value (Go.Operand.func 13)), args := #[(Go.Operand.tmp 162), (Go.Operand.tmp 164), (Go.Operand.tmp 166)], argTypes := #[28, 3, 45] }), 25, some (156, true)⟩,
  .one ⟨true, some 168, (Go.Op.binOp Go.BinOp.neq 25 (Go.Operand.tmp 161) (Go.Operand.tmp 167) 25), 4, some (156, true)⟩,
  .one ⟨true, some 169, (Go.Op.pick (Go.Operand.tmp 156) (Go.Operand.tmp 168) (Go.Operand.const (Go.Value.bool false))), 4, none⟩]
               (fun w => Sat w0 w [stA 73 g44 [(.int .u8 y41.1), (.slice A42 (List.length y41.2.1) c43), (.int .i64 y41.2.2.1), (.int .u64 y41.2.2.2.1)], bookA g19 x20]) rfl (by kernel_rfl) (by kernel_rfl) (S.drew.mask [false, false, false, true, true]) ?_
              have S := S.drew
              refine sl_run orc_ok 1 rfl fr fun a fr => ?_
              refine sl_ldf orc_ok (fun _ S => Sat.stAt S 0 rfl rfl) fr rfl rfl rfl rfl rfl rfl rfl rfl (Sat.mask S [false, false, false, true, true]) fun a fr => ?_
              refine sl_run orc_ok 3 rfl fr fun a fr => ?_
              refine sl_split 156 fr rfl h (fun fr h => ?_) (fun fr h => ?_)
              ·refine sl_run orc_ok 2 rfl fr fun a fr => ?_
               refine sl_ldf orc_ok (fun _ S => Sat.stAt S 0 rfl rfl) fr rfl rfl rfl rfl rfl rfl rfl rfl (Sat.mask S [false, false, false, true, true]) fun a fr => ?_
               refine sl_run orc_ok 3 rfl fr fun a fr => ?_
               refine sl_ldf orc_ok (fun _ S => Sat.stAt S 0 rfl rfl) fr rfl rfl rfl rfl rfl rfl rfl rfl (Sat.mask S [false, false, false, true, true]) fun a fr => ?_
               refine sl_run orc_ok 1 rfl fr fun a fr => ?_
               refine sl_ldf orc_ok (fun _ S => Sat.stAt S 0 rfl rfl) fr rfl rfl rfl rfl rfl rfl rfl rfl (Sat.mask S [false, false, false, true, true]) fun a fr => ?_
               have S := S.frontAt 1 rfl
               obtain ⟨hc, h⟩ := ifs h
               refine sl_call fr rfl rfl rfl rfl rfl en12 (disk_write S y41.2.2.1 (Sat.twbAt S 2 rfl) hc) ?_
               rintro _ w ⟨rfl, hv, S⟩
               refine ⟨_, rfl, hv, (Sat.mask S [false, false, false, true, true]), fun a fr => ?_⟩
               obtain ⟨D84, hx, h⟩ := lt_h h
               rw [hx] at S
               have S := S.frontAt 1 rfl
               obtain ⟨hc, h⟩ := ifs h
               obtain ⟨y85, hn0, h⟩ := lt_h h
               obtain ⟨D86, hn1, h⟩ := lt_h h
               have H := ds_write (A := A42) (c := c43) (l := y41.2.1) (fr.int (d := 164) rfl) (fr.slice (d := 166) rfl) (fun _ S => Rk.at rq40_1 S) hc S
               rw [hn0, hn1] at H
               refine sl_call fr rfl rfl rfl rfl rfl en13 H ?_
               clear H
               rintro _ w ⟨rfl, hv, S⟩
               refine ⟨_, rfl, hv, (Sat.mask S [false, false, false, true, true]), fun a fr => ?_⟩
               refine sl_run orc_ok 2 rfl fr fun a fr => ?_
               refine sl_end ?_
               refine then_n ?_
               refine cw_if fr rfl h (fun h => ?_) (fun h => ?_)
               ·cases h
               ·refine wp_skip ?_
                exact ⟨D86, D84, fr.sub ⟨rfl, rfl, rfl, rfl, rfl, rfl, rfl, rfl, trivial⟩, S, h⟩
              ·refine sl_run orc_ok 9 rfl fr fun a fr => ?_
               refine sl_no fr rfl (Sat.mask S [false, false, false, true, true]) rfl rfl fun a fr => ?_
               refine sl_no fr rfl (Sat.mask S [false, false, false, true, true]) rfl rfl fun a fr => ?_
               refine sl_run orc_ok 2 rfl fr fun a fr => ?_
               refine sl_end ?_
               refine then_n ?_
               refine cw_f fr rfl ?_
               refine wp_skip ?_
               exact ⟨D66, D68, fr.sub ⟨rfl, rfl, rfl, rfl, rfl, rfl, rfl, rfl, trivial⟩, S, h⟩
             ·rintro a w ⟨D69, D70, fr, S, h⟩
              rw [WallsPlay.j3] at h
              refine wp_seq ?_
              refine wp_region_lit ?_
              refine wl_run orc_ok 1 rfl fr fun a fr => ?_
              have S := S.frontAt 1 rfl
              obtain ⟨hc, h⟩ := ifs h
              obtain ⟨p71, hn0, h⟩ := lt_h h
              obtain ⟨x72, hn1, h⟩ := lt_h h
              obtain ⟨D73, hn2, h⟩ := lt_h h
              have H := open_call S hc
              rw [hn0, hn1, hn2] at H
              refine wl_call fr rfl rfl rfl rfl en28 H ?_
              clear H
              rintro _ w ⟨g76, A74, c75, rfl, hv, S⟩
              refine ⟨_, rfl, hv, fun a fr => ?_⟩
              refine wl_run orc_ok 7 rfl fr fun a fr => ?_
              refine wpList_nil ?_
              refine then_n ?_
              refine wp_seq ?_
              refine wp_region_lit ?_
              refine wl_run orc_ok 1 rfl fr fun a fr => ?_
              have S := S.frontAt 3 rfl
              obtain ⟨hc, h⟩ := ifs h
              obtain ⟨p77, hn0, h⟩ := lt_h h
              obtain ⟨x78, hn1, h⟩ := lt_h h
              obtain ⟨D79, hn2, h⟩ := lt_h h
              have H := r6_open hc.1 hc.2 S
              rw [hn0, hn1, hn2] at H
              refine wl_call fr rfl rfl rfl rfl en29 H ?_
              clear H
              rintro _ w ⟨g82, A80, c81, rfl, hv, S⟩
              refine ⟨_, rfl, hv, fun a fr => ?_⟩
              refine wl_run orc_ok 5 rfl fr fun a fr => ?_
              refine wpList_nil ?_
              refine then_n ?_
              refine wp_seq ?_
              refine wp_seq ?_
              refine wp_region_lit ?_
              refine wl_run orc_ok 5 rfl fr fun a fr => ?_
              obtain ⟨hc, h⟩ := ifs h
              obtain ⟨y83, hn0, h⟩ := lt_h h
              have H := samerecs_call (A := A74) (ca := c75) (a := p71) (B := A80) (cb := c81) (b := p77) (Sat.recAt S 4 rfl).1 (Sat.recAt S 1 rfl).1 (fr.slice (d := 184) rfl) (fr.slice (d := 185) rfl) hc S
              rw [hn0] at H
              refine wl_call fr rfl rfl rfl rfl en34 H ?_
              clear H
              rintro _ w ⟨rfl, S⟩
              refine ⟨_, rfl, rfl, fun a fr => ?_⟩
              refine wl_run orc_ok 2 rfl fr fun a fr => ?_
              refine wpList_nil ?_
              refine then_n ?_
              refine cw_if fr rfl h (fun h => ?_) (fun h => ?_)
              ·cases h
              ·refine wp_skip ?_
               refine then_n ?_
               refine wp_seq ?_
               refine wp_region_lit ?_
               refine wl_run orc_ok 1 rfl fr fun a fr => ?_
               have S := S.frontAt 8 rfl
               have S := S.frontAt 5 rfl
               obtain ⟨hc, h⟩ := ifs h
               refine wl_call fr rfl rfl rfl rfl en35 (book_records hc S) ?_
               rintro _ w ⟨rfl, S⟩
               refine ⟨_, rfl, rfl, fun a fr => ?_⟩
               refine wpList_nil ?_
               refine then_n ?_
               refine wp_seq ?_
               refine wp_region_lit ?_
               refine wl_run orc_ok 1 rfl fr fun a fr => ?_
               refine wl_run orc_ok 1 rfl fr fun a fr => ?_
               refine wpList_nil ?_
               refine then_n ?_
               refine wp_region_lit ?_
               refine wl_run orc_ok 1 rfl fr fun a fr => ?_
               refine wl_run orc_ok 1 rfl fr fun a fr => ?_
               refine wpList_nil ?_
               refine blk_n ?_
               have S : Sat w0 _ [bookA g19 (x20 + (List.length p71 : Nat)), rlgA g82 g65 x78, ddsA g65 D79, logA g76 g67 x72, diskA g67 D73, twbA A45 c46 y41.2.1, stA 73 g44 [(.int .u8 y41.1), (.slice A42 (List.length y41.2.1) c43), (.int .i64 y41.2.2.1), (.int .u64 y41.2.2.2.1)]] := S.mask [true, true, false, true, true, true, true, true]
               have S := S.frontAt 6 rfl
               have S := S.frontAt 6 rfl
               have S := S.frontAt 6 rfl
               have S := S.frontAt 6 rfl
               have S := S.frontAt 6 rfl
               have S := S.frontAt 6 rfl
               exact ⟨g82, x78, g65, D79, g76, x72, g67, D73, (x20 + (List.length p71 : Nat)), fr.sub ⟨rfl, rfl, rfl, rfl, rfl, rfl, rfl, rfl, rfl, rfl, trivial⟩, S, h⟩
           ·refine wp_seq ?_
            refine wp_region_sl [.one (0, true, some 89), .one (1, true, some 90), .one (2, true, some 91), .one (4, true, some 93), .one (5, true, some 94), .one (6, true, some 95), .one (3, false, some 92), .one (7, false, some 96), .one (8, true, some 97)]
             [.one ⟨true, some 89, (Go.Op.move (Go.Operand.tmp 10)), 65, none⟩,
  .one ⟨true, some 90, (Go.Op.fieldAddr 73 (Go.Operand.tmp 16) 2), 0, none⟩,
  .one ⟨true, some 91, (Go.Op.load 3 (Go.Operand.tmp 90)), 3, none⟩,
  .one ⟨true, some 93, (Go.Op.move (Go.Operand.tmp 12)), 69, none⟩,
  .one ⟨true, some 94, (Go.Op.fieldAddr 73 (Go.Operand.tmp 16) 2), 0, none⟩,
  .one ⟨true, some 95, (Go.Op.load 3 (Go.Operand.tmp 94)), 3, none⟩,
  .one ⟨false, some 92, (Go.Op.call { callee := (Go.Callee.value (Go.Operand.func 36)), args := #[(Go.Operand.tmp 89), (Go.Operand.tmp 91)], argTypes := #[65, 3] }), 4, none⟩,
  .one ⟨false, some 96, (Go.Op.call { callee := (Go.Callee.value (Go.Operand.func 37)), args := #[(Go.Operand.tmp 93), (Go.Operand.tmp 95)], argTypes := #[69, 3] }), 4, none⟩,
  .one ⟨true, some 97, (Go.Op.binOp Go.BinOp.neq 4 (Go.Operand.tmp 92) (Go.Operand.tmp 96) 4), 4, none⟩]
             (fun w => Sat w0 w [twbA A45 c46 y41.2.1, stA 73 g44 [(.int .u8 y41.1), (.slice A42 (List.length y41.2.1) c43), (.int .i64 y41.2.2.1), (.int .u64 y41.2.2.2.1)], bookA g19 x20]) rfl (by kernel_rfl) (by kernel_rfl) (S.drew.mask [true, true, true, false, false, false, false]) ?_
            have S := S.drew
            refine sl_run orc_ok 2 rfl fr fun a fr => ?_
            refine sl_ldf orc_ok (fun _ S => Sat.stAt S 1 rfl rfl) fr rfl rfl rfl rfl rfl rfl rfl rfl (Sat.mask S [true, true, true, false, false, false, false]) fun a fr => ?_
            refine sl_run orc_ok 2 rfl fr fun a fr => ?_
            refine sl_ldf orc_ok (fun _ S => Sat.stAt S 1 rfl rfl) fr rfl rfl rfl rfl rfl rfl rfl rfl (Sat.mask S [true, true, true, false, false, false, false]) fun a fr => ?_
            have S := S.frontAt 6 rfl
            have S := S.frontAt 6 rfl
            obtain ⟨hc, h⟩ := ifs h
            obtain ⟨y91, hn0, h⟩ := lt_h h
            have H := room_call S hc (fr.int (d := 91) rfl)
            rw [hn0] at H
            refine sl_call fr rfl rfl rfl rfl rfl en36 H ?_
            clear H
            rintro _ w ⟨rfl, S⟩
            refine ⟨_, rfl, rfl, (Sat.mask S [false, false, true, true, true, false, false]), fun a fr => ?_⟩
            have S := S.frontAt 6 rfl
            have S := S.frontAt 6 rfl
            obtain ⟨hc, h⟩ := ifs h
            obtain ⟨y92, hn0, h⟩ := lt_h h
            have H := r6_room (fr.int (d := 95) rfl) hc S
            rw [hn0] at H
            refine sl_call fr rfl rfl rfl rfl rfl en37 H ?_
            clear H
            rintro _ w ⟨rfl, S⟩
            refine ⟨_, rfl, rfl, (Sat.mask S [false, false, false, false, true, true, true]), fun a fr => ?_⟩
            refine sl_run orc_ok 1 rfl fr fun a fr => ?_
            refine sl_end ?_
            refine then_n ?_
            refine cw_if fr rfl h (fun h => ?_) (fun h => ?_)
            ·cases h
            ·refine wp_skip ?_
             refine blk_n ?_
             exact ⟨g21, x22, g23, D24, g25, x26, g27, D28, x20, fr.sub ⟨rfl, rfl, rfl, rfl, rfl, rfl, rfl, rfl, rfl, rfl, trivial⟩, S, h⟩
          ·refine wp_seq ?_
           refine wp_region_lit ?_
           refine wl_run orc_ok 2 rfl fr fun a fr => ?_
           refine wpList_nil ?_
           refine then_n ?_
           refine cw_if fr rfl h (fun h => ?_) (fun h => ?_)
           ·refine wp_skip ?_
            refine then_n ?_
            refine cw_if fr rfl h (fun h => ?_) (fun h => ?_)
            ·refine cw_cut (fun a w => ∃ g93 : Nat, ∃ D94 : Dk, ∃ g95 : Nat, ∃ D96 : Dk, Fr 237 a [(1, (.slice A1 (List.length l1) c1)), (5, (.int .i64 y1)), (6, (.pointer (some ⟨g95, 0, none⟩))), (8, (.pointer (some ⟨g93, 0, none⟩))), (14, (.pointer (some ⟨g19, 0, none⟩))), (15, (.int .i64 x29)), (16, (.pointer (some ⟨g44, 0, none⟩))), (17, (.slice A45 (List.length y41.2.1) c46))] ∧ Sat w0 w [ddsA g93 D94, diskA g95 D96, twbA A45 c46 y41.2.1, stA 73 g44 [(.int .u8 y41.1), (.slice A42 (List.length y41.2.1) c43), (.int .i64 y41.2.2.1), (.int .u64 y41.2.2.2.1)], bookA g19 x20] ∧ (WallsPlay.j4 (WallsPlay.l1 k1 l1 y1) y41 x20 x29 D94 D96) = some r) ?_ ?_
             ·refine wp_seq ?_
              refine wp_region_lit ?_
              refine wl_run orc_ok 1 rfl fr fun a fr => ?_
              refine wl_ldf orc_ok (Sat.stAt S 1 rfl rfl) fr rfl rfl rfl rfl rfl rfl rfl fun a fr => ?_
              refine wl_run orc_ok 2 rfl fr fun a fr => ?_
              refine wpList_nil ?_
              refine then_n ?_
              refine cw_if fr rfl h (fun h => ?_) (fun h => ?_)
              ·refine wp_seq ?_
               refine wp_region_lit ?_
               refine wl_run orc_ok 2 rfl fr fun a fr => ?_
               refine wl_ldf orc_ok (Sat.stAt S 1 rfl rfl) fr rfl rfl rfl rfl rfl rfl rfl fun a fr => ?_
               refine wl_run orc_ok 1 rfl fr fun a fr => ?_
               refine wl_ldf orc_ok (Sat.stAt S 1 rfl rfl) fr rfl rfl rfl rfl rfl rfl rfl fun a fr => ?_
               refine wl_run orc_ok 1 rfl fr fun a fr => ?_
               have S := S.frontAt 6 rfl
               obtain ⟨hc, h⟩ := ifs h
               refine wl_call fr rfl rfl rfl rfl en20 (disk_fail S (fr.int (d := 127) rfl) (fr.int (d := 130) rfl) hc) ?_
               rintro _ w ⟨g115, rfl, S⟩
               refine ⟨_, rfl, rfl, fun a fr => ?_⟩
               obtain ⟨D116, hx, h⟩ := lt_h h
               rw [hx] at S
               refine wl_run orc_ok 5 rfl fr fun a fr => ?_
               refine wpList_nil ?_
               refine then_n ?_
               refine wp_seq ?_
               refine wp_region_lit ?_
               refine wl_run orc_ok 2 rfl fr fun a fr => ?_
               refine wl_ldf orc_ok (Sat.stAt S 3 rfl rfl) fr rfl rfl rfl rfl rfl rfl rfl fun a fr => ?_
               refine wl_run orc_ok 1 rfl fr fun a fr => ?_
               refine wl_ldf orc_ok (Sat.stAt S 3 rfl rfl) fr rfl rfl rfl rfl rfl rfl rfl fun a fr => ?_
               refine wl_run orc_ok 1 rfl fr fun a fr => ?_
               have S := S.frontAt 6 rfl
               obtain ⟨hc, h⟩ := ifs h
               obtain ⟨D117, hn0, h⟩ := lt_h h
               have H := ds_fail (fr.int (d := 137) rfl) (fr.int (d := 140) rfl) hc.1 hc.2 S
               rw [hn0] at H
               refine wl_call fr rfl rfl rfl rfl en21 H ?_
               clear H
               rintro _ w ⟨g118, rfl, S⟩
               refine ⟨_, rfl, rfl, fun a fr => ?_⟩
               refine wl_run orc_ok 5 rfl fr fun a fr => ?_
               refine wpList_nil ?_
               refine then_n ?_
               refine wp_seq ?_
               refine wp_seq ?_
               refine wp_region_lit ?_
               refine wl_run orc_ok 6 rfl fr fun a fr => ?_
               refine wpList_nil ?_
               refine then_n ?_
               refine cw_f fr rfl ?_
               refine wp_skip ?_
               refine then_n ?_
               refine wp_seq ?_
               refine wp_region_lit ?_
               refine wl_run orc_ok 1 rfl fr fun a fr => ?_
               have S : Sat w0 _ [ddsA g118 D117, ddsA g23 D24, diskA g115 D116, twbA A45 c46 y41.2.1, stA 73 g44 [(.int .u8 y41.1), (.slice A42 (List.length y41.2.1) c43), (.int .i64 y41.2.2.1), (.int .u64 y41.2.2.2.1)], bookA g19 x20, rlgA g21 g23 x22] := S.mask [true, true, true, false, true, true, true, true, false]
               refine wl_run orc_ok 1 rfl fr fun a fr => ?_
               refine wpList_nil ?_
               refine then_n ?_
               refine wp_region_lit ?_
               refine wl_run orc_ok 1 rfl fr fun a fr => ?_
               have S : Sat w0 _ [ddsA g118 D117, diskA g115 D116, twbA A45 c46 y41.2.1, stA 73 g44 [(.int .u8 y41.1), (.slice A42 (List.length y41.2.1) c43), (.int .i64 y41.2.2.1), (.int .u64 y41.2.2.2.1)], bookA g19 x20] := S.mask [true, false, true, true, true, true, false]
               refine wl_run orc_ok 1 rfl fr fun a fr => ?_
               refine wpList_nil ?_
               exact ⟨g118, D117, g115, D116, fr.sub ⟨rfl, rfl, rfl, rfl, rfl, rfl, rfl, rfl, trivial⟩, S, h⟩
              ·refine wp_skip ?_
               have S : Sat w0 _ [twbA A45 c46 y41.2.1, stA 73 g44 [(.int .u8 y41.1), (.slice A42 (List.length y41.2.1) c43), (.int .i64 y41.2.2.1), (.int .u64 y41.2.2.2.1)], bookA g19 x20, ddsA g23 D24, diskA g27 D28] := S.mask [true, true, true, false, true, false, true]
               have S := S.frontAt 2 rfl
               have S := S.frontAt 2 rfl
               have S := S.frontAt 2 rfl
               have S := S.frontAt 4 rfl
               have S := S.frontAt 4 rfl
               exact ⟨g23, D24, g27, D28, fr.sub ⟨rfl, rfl, rfl, rfl, rfl, rfl, rfl, rfl, trivial⟩, S, h⟩
             ·rintro a w ⟨g93, D94, g95, D96, fr, S, h⟩
              rw [WallsPlay.j4] at h
              refine cw_cut (fun a w => ∃ D97 : Dk, ∃ D98 : Dk, Fr 237 a [(1, (.slice A1 (List.length l1) c1)), (5, (.int .i64 y1)), (6, (.pointer (some ⟨g95, 0, none⟩))), (8, (.pointer (some ⟨g93, 0, none⟩))), (14, (.pointer (some ⟨g19, 0, none⟩))), (15, (.int .i64 x29)), (16, (.pointer (some ⟨g44, 0, none⟩))), (17, (.slice A45 (List.length y41.2.1) c46))] ∧ Sat w0 w [ddsA g93 D97, diskA g95 D98, twbA A45 c46 y41.2.1, stA 73 g44 [(.int .u8 y41.1), (.slice A42 (List.length y41.2.1) c43), (.int .i64 y41.2.2.1), (.int .u64 y41.2.2.2.1)], bookA g19 x20] ∧ (WallsPlay.j5 (WallsPlay.l1 k1 l1 y1) x20 y41 x29 D97 D98) = some r) ?_ ?_
              ·refine wp_seq ?_
               refine wp_region_sl [.one (0, true, some 152), .one (1, true, some 153), .one (2, true, some 154), .one (3, true, some 155), .one (4, true, some 156), .one (5, true, some 157), .one (6, true, some 158), .one (7, true, some 159), .one (8, true, some 160), .one (10, true, some 162), .one (11, true, some 163), .one (12, true, some 164), .one (13, true, some 165), .one (14, true, some 166), .one (9, false, some 161), .one (15, false, some 167), .one (16, true, some 168), .one (17, true, some 169)]
                [.one ⟨true, some 152, (Go.Op.fieldAddr 73 (Go.Operand.tmp 16) 0), 0, none⟩,
  .one ⟨true, some 153, (Go.Op.load 5 (Go.Operand.tmp 152)), 5, none⟩,
  .one ⟨true, some 154, (Go.Op.binOp Go.BinOp.rem 5 (Go.Operand.tmp 153) (Go.Operand.const (Go.Value.int Go.IntKind.u8 7)) 5), 5, none⟩,
  .one ⟨true, some 155, (Go.Op.binOp Go.BinOp.eql 5 (Go.Operand.tmp 154) (Go.Operand.const (Go.Value.int Go.IntKind.u8 5)) 5), 4, none⟩,
  .one ⟨true, some 156, (Go.Op.move (Go.Operand.tmp 155)), 4, none⟩,
  .one ⟨true, some 157, (Go.Op.move (Go.Operand.tmp 6)), 24, some (156, true)⟩,
  .one ⟨true, some 158, (Go.Op.fieldAddr 73 (Go.Operand.tmp 16) 2), 0, some (156, true)⟩,
  .one ⟨true, some 159, (Go.Op.load 3 (Go.Operand.tmp 158)), 3, some (156, true)⟩,
  .one ⟨true, some 160, (Go.Op.move (Go.Operand.tmp 17)), 45, some (156, true)⟩,
  .one ⟨true, some 162, (Go.Op.move (Go.Operand.tmp 8)), 28, some (156, true)⟩,
  .one ⟨true, some 163, (Go.Op.fieldAddr 73 (Go.Operand.tmp 16) 2), 0, some (156, true)⟩,
  .one ⟨true, some 164, (Go.Op.load 3 (Go.Operand.tmp 163)), 3, some (156, true)⟩,
  .one ⟨true, some 165, (Go.Op.fieldAddr 73 (Go.Operand.tmp 16) 1), 0, some (156, true)⟩,
  .one ⟨true, some 166, (Go.Op.load 45 (Go.Operand.tmp 165)), 45, some (156, true)⟩,
  .one ⟨false, some 161, (Go.Op.call { callee := (Go.Callee.value (Go.Operand.func 12)), args := #[(Go.Operand.tmp 157), (Go.Operand.tmp 159), (Go.Operand.tmp 160)], argTypes := #[24, 3, 45] }), 25, some (156, true)⟩,
  .one ⟨false, some 167, (Go.Op.call { callee := (Go.Callee.value (Go.Operand.func 13)), args := #[(Go.Operand.tmp 162), (Go.Operand.tmp 164), (Go.Operand.tmp 166)], argTypes := #[28, 3, 45] }), 25, some (156, true)⟩,
  .one ⟨true, some 168, (Go.Op.binOp Go.BinOp.neq 25 (Go.Operand.tmp 161) (Go.Operand.tmp 167) 25), 4, some (156, true)⟩,
  .one ⟨true, some 169, (Go.Op.pick (Go.Operand.tmp 156) (Go.Operand.tmp 168) (Go.Operand.const (Go.Value.bool false))), 4, none⟩]
                (fun w => Sat w0 w [stA 73 g44 [(.int .u8 y41.1), (.slice A42 (List.length y41.2.1) c43), (.int .i64 y41.2.2.1), (.int .u64 y41.2.2.2.1)], bookA g19 x20]) rfl (by kernel_rfl) (by kernel_rfl) (S.drew.mask [false, false, false, true, true]) ?_
               have S := S.drew
               refine sl_run orc_ok 1 rfl fr fun a fr => ?_
               refine sl_ldf orc_ok (fun _ S => Sat.stAt S 0 rfl rfl) fr rfl rfl rfl rfl rfl rfl rfl rfl (Sat.mask S [false, false, false, true, true]) fun a fr => ?_
               refine sl_run orc_ok 3 rfl fr fun a fr => ?_
               refine sl_split 156 fr rfl h (fun fr h => ?_) (fun fr h => ?_)
               ·refine sl_run orc_ok 2 rfl fr fun a fr => ?_
                refine sl_ldf orc_ok (fun _ S => Sat.stAt S 0 rfl rfl) fr rfl rfl rfl rfl rfl rfl rfl rfl (Sat.mask S [false, false, false, true, true]) fun a fr => ?_
                refine sl_run orc_ok 3 rfl fr fun a fr => ?_
                refine sl_ldf orc_ok (fun _ S => Sat.stAt S 0 rfl rfl) fr rfl rfl rfl rfl rfl rfl rfl rfl (Sat.mask S [false, false, false, true, true]) fun a fr => ?_
                refine sl_run orc_ok 1 rfl fr fun a fr => ?_
                refine sl_ldf orc_ok (fun _ S => Sat.stAt S 0 rfl rfl) fr rfl rfl rfl rfl rfl rfl rfl rfl (Sat.mask S [false, false, false, true, true]) fun a fr => ?_
                have S := S.frontAt 1 rfl
                obtain ⟨hc, h⟩ := ifs h
                refine sl_call fr rfl rfl rfl rfl rfl en12 (disk_write S y41.2.2.1 (Sat.twbAt S 2 rfl) hc) ?_
                rintro _ w ⟨rfl, hv, S⟩
                refine ⟨_, rfl, hv, (Sat.mask S [false, false, false, true, true]), fun a fr => ?_⟩
                obtain ⟨D112, hx, h⟩ := lt_h h
                rw [hx] at S
                have S := S.frontAt 1 rfl
                obtain ⟨hc, h⟩ := ifs h
                obtain ⟨y113, hn0, h⟩ := lt_h h
                obtain ⟨D114, hn1, h⟩ := lt_h h
                have H := ds_write (A := A42) (c := c43) (l := y41.2.1) (fr.int (d := 164) rfl) (fr.slice (d := 166) rfl) (fun _ S => Rk.at rq40_1 S) hc S
                rw [hn0, hn1] at H
                refine sl_call fr rfl rfl rfl rfl rfl en13 H ?_
                clear H
                rintro _ w ⟨rfl, hv, S⟩
                refine ⟨_, rfl, hv, (Sat.mask S [false, false, false, true, true]), fun a fr => ?_⟩
                refine sl_run orc_ok 2 rfl fr fun a fr => ?_
                refine sl_end ?_
                refine then_n ?_
                refine cw_if fr rfl h (fun h => ?_) (fun h => ?_)
                ·cases h
                ·refine wp_skip ?_
                 exact ⟨D114, D112, fr.sub ⟨rfl, rfl, rfl, rfl, rfl, rfl, rfl, rfl, trivial⟩, S, h⟩
               ·refine sl_run orc_ok 9 rfl fr fun a fr => ?_
                refine sl_no fr rfl (Sat.mask S [false, false, false, true, true]) rfl rfl fun a fr => ?_
                refine sl_no fr rfl (Sat.mask S [false, false, false, true, true]) rfl rfl fun a fr => ?_
                refine sl_run orc_ok 2 rfl fr fun a fr => ?_
                refine sl_end ?_
                refine then_n ?_
                refine cw_f fr rfl ?_
                refine wp_skip ?_
                exact ⟨D94, D96, fr.sub ⟨rfl, rfl, rfl, rfl, rfl, rfl, rfl, rfl, trivial⟩, S, h⟩
              ·rintro a w ⟨D97, D98, fr, S, h⟩
               rw [WallsPlay.j5] at h
               refine wp_seq ?_
               refine wp_region_lit ?_
               refine wl_run orc_ok 1 rfl fr fun a fr => ?_
               have S := S.frontAt 1 rfl
               obtain ⟨hc, h⟩ := ifs h
               obtain ⟨p99, hn0, h⟩ := lt_h h
               obtain ⟨x100, hn1, h⟩ := lt_h h
               obtain ⟨D101, hn2, h⟩ := lt_h h
               have H := open_call S hc
               rw [hn0, hn1, hn2] at H
               refine wl_call fr rfl rfl rfl rfl en28 H ?_
               clear H
               rintro _ w ⟨g104, A102, c103, rfl, hv, S⟩
               refine ⟨_, rfl, hv, fun a fr => ?_⟩
               refine wl_run orc_ok 7 rfl fr fun a fr => ?_
               refine wpList_nil ?_
               refine then_n ?_
               refine wp_seq ?_
               refine wp_region_lit ?_
               refine wl_run orc_ok 1 rfl fr fun a fr => ?_
               have S := S.frontAt 3 rfl
               obtain ⟨hc, h⟩ := ifs h
               obtain ⟨p105, hn0, h⟩ := lt_h h
               obtain ⟨x106, hn1, h⟩ := lt_h h
               obtain ⟨D107, hn2, h⟩ := lt_h h
               have H := r6_open hc.1 hc.2 S
               rw [hn0, hn1, hn2] at H
               refine wl_call fr rfl rfl rfl rfl en29 H ?_
               clear H
               rintro _ w ⟨g110, A108, c109, rfl, hv, S⟩
               refine ⟨_, rfl, hv, fun a fr => ?_⟩
               refine wl_run orc_ok 5 rfl fr fun a fr => ?_
               refine wpList_nil ?_
               refine then_n ?_
               refine wp_seq ?_
               refine wp_seq ?_
               refine wp_region_lit ?_
               refine wl_run orc_ok 5 rfl fr fun a fr => ?_
               obtain ⟨hc, h⟩ := ifs h
               obtain ⟨y111, hn0, h⟩ := lt_h h
               have H := samerecs_call (A := A102) (ca := c103) (a := p99) (B := A108) (cb := c109) (b := p105) (Sat.recAt S 4 rfl).1 (Sat.recAt S 1 rfl).1 (fr.slice (d := 184) rfl) (fr.slice (d := 185) rfl) hc S
               rw [hn0] at H
               refine wl_call fr rfl rfl rfl rfl en34 H ?_
               clear H
               rintro _ w ⟨rfl, S⟩
               refine ⟨_, rfl, rfl, fun a fr => ?_⟩
               refine wl_run orc_ok 2 rfl fr fun a fr => ?_
               refine wpList_nil ?_
               refine then_n ?_
               refine cw_if fr rfl h (fun h => ?_) (fun h => ?_)
               ·cases h
               ·refine wp_skip ?_
                refine then_n ?_
                refine wp_seq ?_
                refine wp_region_lit ?_
                refine wl_run orc_ok 1 rfl fr fun a fr => ?_
                have S := S.frontAt 8 rfl
                have S := S.frontAt 5 rfl
                obtain ⟨hc, h⟩ := ifs h
                refine wl_call fr rfl rfl rfl rfl en35 (book_records hc S) ?_
                rintro _ w ⟨rfl, S⟩
                refine ⟨_, rfl, rfl, fun a fr => ?_⟩
                refine wpList_nil ?_
                refine then_n ?_
                refine wp_seq ?_
                refine wp_region_lit ?_
                refine wl_run orc_ok 1 rfl fr fun a fr => ?_
                refine wl_run orc_ok 1 rfl fr fun a fr => ?_
                refine wpList_nil ?_
                refine then_n ?_
                refine wp_region_lit ?_
                refine wl_run orc_ok 1 rfl fr fun a fr => ?_
                refine wl_run orc_ok 1 rfl fr fun a fr => ?_
                refine wpList_nil ?_
                refine blk_n ?_
                have S : Sat w0 _ [bookA g19 (x20 + (List.length p99 : Nat)), rlgA g110 g93 x106, ddsA g93 D107, logA g104 g95 x100, diskA g95 D101, twbA A45 c46 y41.2.1, stA 73 g44 [(.int .u8 y41.1), (.slice A42 (List.length y41.2.1) c43), (.int .i64 y41.2.2.1), (.int .u64 y41.2.2.2.1)]] := S.mask [true, true, false, true, true, true, true, true]
                have S := S.frontAt 6 rfl
                have S := S.frontAt 6 rfl
                have S := S.frontAt 6 rfl
                have S := S.frontAt 6 rfl
                have S := S.frontAt 6 rfl
                have S := S.frontAt 6 rfl
                exact ⟨g110, x106, g93, D107, g104, x100, g95, D101, (x20 + (List.length p99 : Nat)), fr.sub ⟨rfl, rfl, rfl, rfl, rfl, rfl, rfl, rfl, rfl, rfl, trivial⟩, S, h⟩
            ·refine wp_seq ?_
             refine wp_region_sl [.one (0, true, some 89), .one (1, true, some 90), .one (2, true, some 91), .one (4, true, some 93), .one (5, true, some 94), .one (6, true, some 95), .one (3, false, some 92), .one (7, false, some 96), .one (8, true, some 97)]
              [.one ⟨true, some 89, (Go.Op.move (Go.Operand.tmp 10)), 65, none⟩,
  .one ⟨true, some 90, (Go.Op.fieldAddr 73 (Go.Operand.tmp 16) 2), 0, none⟩,
  .one ⟨true, some 91, (Go.Op.load 3 (Go.Operand.tmp 90)), 3, none⟩,
  .one ⟨true, some 93, (Go.Op.move (Go.Operand.tmp 12)), 69, none⟩,
  .one ⟨true, some 94, (Go.Op.fieldAddr 73 (Go.Operand.tmp 16) 2), 0, none⟩,
  .one ⟨true, some 95, (Go.Op.load 3 (Go.Operand.tmp 94)), 3, none⟩,
  .one ⟨false, some 92, (Go.Op.call { callee := (Go.Callee.value (Go.Operand.func 36)), args := #[(Go.Operand.tmp 89), (Go.Operand.tmp 91)], argTypes := #[65, 3] }), 4, none⟩,
  .one ⟨false, some 96, (Go.Op.call { callee := (Go.Callee.value (Go.Operand.func 37)), args := #[(Go.Operand.tmp 93), (Go.Operand.tmp 95)], argTypes := #[69, 3] }), 4, none⟩,
  .one ⟨true, some 97, (Go.Op.binOp Go.BinOp.neq 4 (Go.Operand.tmp 92) (Go.Operand.tmp 96) 4), 4, none⟩]
              (fun w => Sat w0 w [twbA A45 c46 y41.2.1, stA 73 g44 [(.int .u8 y41.1), (.slice A42 (List.length y41.2.1) c43), (.int .i64 y41.2.2.1), (.int .u64 y41.2.2.2.1)], bookA g19 x20]) rfl (by kernel_rfl) (by kernel_rfl) (S.drew.mask [true, true, true, false, false, false, false]) ?_
             have S := S.drew
             refine sl_run orc_ok 2 rfl fr fun a fr => ?_
             refine sl_ldf orc_ok (fun _ S => Sat.stAt S 1 rfl rfl) fr rfl rfl rfl rfl rfl rfl rfl rfl (Sat.mask S [true, true, true, false, false, false, false]) fun a fr => ?_
             refine sl_run orc_ok 2 rfl fr fun a fr => ?_
             refine sl_ldf orc_ok (fun _ S => Sat.stAt S 1 rfl rfl) fr rfl rfl rfl rfl rfl rfl rfl rfl (Sat.mask S [true, true, true, false, false, false, false]) fun a fr => ?_
             have S := S.frontAt 6 rfl
             have S := S.frontAt 6 rfl
             obtain ⟨hc, h⟩ := ifs h
             obtain ⟨y119, hn0, h⟩ := lt_h h
             have H := room_call S hc (fr.int (d := 91) rfl)
             rw [hn0] at H
             refine sl_call fr rfl rfl rfl rfl rfl en36 H ?_
             clear H
             rintro _ w ⟨rfl, S⟩
             refine ⟨_, rfl, rfl, (Sat.mask S [false, false, true, true, true, false, false]), fun a fr => ?_⟩
             have S := S.frontAt 6 rfl
             have S := S.frontAt 6 rfl
             obtain ⟨hc, h⟩ := ifs h
             obtain ⟨y120, hn0, h⟩ := lt_h h
             have H := r6_room (fr.int (d := 95) rfl) hc S
             rw [hn0] at H
             refine sl_call fr rfl rfl rfl rfl rfl en37 H ?_
             clear H
             rintro _ w ⟨rfl, S⟩
             refine ⟨_, rfl, rfl, (Sat.mask S [false, false, false, false, true, true, true]), fun a fr => ?_⟩
             refine sl_run orc_ok 1 rfl fr fun a fr => ?_
             refine sl_end ?_
             refine then_n ?_
             refine cw_if fr rfl h (fun h => ?_) (fun h => ?_)
             ·cases h
             ·refine wp_skip ?_
              refine blk_n ?_
              exact ⟨g21, x22, g23, D24, g25, x26, g27, D28, x20, fr.sub ⟨rfl, rfl, rfl, rfl, rfl, rfl, rfl, rfl, rfl, rfl, trivial⟩, S, h⟩
           ·refine wp_region_lit ?_
            refine wl_run orc_ok 2 rfl fr fun a fr => ?_
            refine wpList_nil ?_
            refine then_n ?_
            refine cw_if fr rfl h (fun h => ?_) (fun h => ?_)
            ·refine cw_cut (fun a w => ∃ g121 : Nat, ∃ D122 : Dk, ∃ g123 : Nat, ∃ D124 : Dk, Fr 237 a [(1, (.slice A1 (List.length l1) c1)), (5, (.int .i64 y1)), (6, (.pointer (some ⟨g123, 0, none⟩))), (8, (.pointer (some ⟨g121, 0, none⟩))), (14, (.pointer (some ⟨g19, 0, none⟩))), (15, (.int .i64 x29)), (16, (.pointer (some ⟨g44, 0, none⟩))), (17, (.slice A45 (List.length y41.2.1) c46))] ∧ Sat w0 w [ddsA g121 D122, diskA g123 D124, twbA A45 c46 y41.2.1, stA 73 g44 [(.int .u8 y41.1), (.slice A42 (List.length y41.2.1) c43), (.int .i64 y41.2.2.1), (.int .u64 y41.2.2.2.1)], bookA g19 x20] ∧ (WallsPlay.j6 (WallsPlay.l1 k1 l1 y1) y41 x20 x29 D122 D124) = some r) ?_ ?_
             ·refine wp_seq ?_
              refine wp_region_lit ?_
              refine wl_run orc_ok 1 rfl fr fun a fr => ?_
              refine wl_ldf orc_ok (Sat.stAt S 1 rfl rfl) fr rfl rfl rfl rfl rfl rfl rfl fun a fr => ?_
              refine wl_run orc_ok 2 rfl fr fun a fr => ?_
              refine wpList_nil ?_
              refine then_n ?_
              refine cw_if fr rfl h (fun h => ?_) (fun h => ?_)
              ·refine wp_seq ?_
               refine wp_region_lit ?_
               refine wl_run orc_ok 2 rfl fr fun a fr => ?_
               refine wl_ldf orc_ok (Sat.stAt S 1 rfl rfl) fr rfl rfl rfl rfl rfl rfl rfl fun a fr => ?_
               refine wl_run orc_ok 1 rfl fr fun a fr => ?_
               refine wl_ldf orc_ok (Sat.stAt S 1 rfl rfl) fr rfl rfl rfl rfl rfl rfl rfl fun a fr => ?_
               refine wl_run orc_ok 1 rfl fr fun a fr => ?_
               have S := S.frontAt 6 rfl
               obtain ⟨hc, h⟩ := ifs h
               refine wl_call fr rfl rfl rfl rfl en20 (disk_fail S (fr.int (d := 127) rfl) (fr.int (d := 130) rfl) hc) ?_
               rintro _ w ⟨g143, rfl, S⟩
               refine ⟨_, rfl, rfl, fun a fr => ?_⟩
               obtain ⟨D144, hx, h⟩ := lt_h h
               rw [hx] at S
               refine wl_run orc_ok 5 rfl fr fun a fr => ?_
               refine wpList_nil ?_
               refine then_n ?_
               refine wp_seq ?_
               refine wp_region_lit ?_
               refine wl_run orc_ok 2 rfl fr fun a fr => ?_
               refine wl_ldf orc_ok (Sat.stAt S 3 rfl rfl) fr rfl rfl rfl rfl rfl rfl rfl fun a fr => ?_
               refine wl_run orc_ok 1 rfl fr fun a fr => ?_
               refine wl_ldf orc_ok (Sat.stAt S 3 rfl rfl) fr rfl rfl rfl rfl rfl rfl rfl fun a fr => ?_
               refine wl_run orc_ok 1 rfl fr fun a fr => ?_
               have S := S.frontAt 6 rfl
               obtain ⟨hc, h⟩ := ifs h
               obtain ⟨D145, hn0, h⟩ := lt_h h
               have H := ds_fail (fr.int (d := 137) rfl) (fr.int (d := 140) rfl) hc.1 hc.2 S
               rw [hn0] at H
               refine wl_call fr rfl rfl rfl rfl en21 H ?_
               clear H
               rintro _ w ⟨g146, rfl, S⟩
               refine ⟨_, rfl, rfl, fun a fr => ?_⟩
               refine wl_run orc_ok 5 rfl fr fun a fr => ?_
               refine wpList_nil ?_
               refine then_n ?_
               refine wp_seq ?_
               refine wp_seq ?_
               refine wp_region_lit ?_
               refine wl_run orc_ok 6 rfl fr fun a fr => ?_
               refine wpList_nil ?_
               refine then_n ?_
               refine cw_f fr rfl ?_
               refine wp_skip ?_
               refine then_n ?_
               refine wp_seq ?_
               refine wp_region_lit ?_
               refine wl_run orc_ok 1 rfl fr fun a fr => ?_
               have S : Sat w0 _ [ddsA g146 D145, ddsA g23 D24, diskA g143 D144, twbA A45 c46 y41.2.1, stA 73 g44 [(.int .u8 y41.1), (.slice A42 (List.length y41.2.1) c43), (.int .i64 y41.2.2.1), (.int .u64 y41.2.2.2.1)], bookA g19 x20, rlgA g21 g23 x22] := S.mask [true, true, true, false, true, true, true, true, false]
               refine wl_run orc_ok 1 rfl fr fun a fr => ?_
               refine wpList_nil ?_
               refine then_n ?_
               refine wp_region_lit ?_
               refine wl_run orc_ok 1 rfl fr fun a fr => ?_
               have S : Sat w0 _ [ddsA g146 D145, diskA g143 D144, twbA A45 c46 y41.2.1, stA 73 g44 [(.int .u8 y41.1), (.slice A42 (List.length y41.2.1) c43), (.int .i64 y41.2.2.1), (.int .u64 y41.2.2.2.1)], bookA g19 x20] := S.mask [true, false, true, true, true, true, false]
               refine wl_run orc_ok 1 rfl fr fun a fr => ?_
               refine wpList_nil ?_
               exact ⟨g146, D145, g143, D144, fr.sub ⟨rfl, rfl, rfl, rfl, rfl, rfl, rfl, rfl, trivial⟩, S, h⟩
              ·refine wp_skip ?_
               have S : Sat w0 _ [twbA A45 c46 y41.2.1, stA 73 g44 [(.int .u8 y41.1), (.slice A42 (List.length y41.2.1) c43), (.int .i64 y41.2.2.1), (.int .u64 y41.2.2.2.1)], bookA g19 x20, ddsA g23 D24, diskA g27 D28] := S.mask [true, true, true, false, true, false, true]
               have S := S.frontAt 2 rfl
               have S := S.frontAt 2 rfl
               have S := S.frontAt 2 rfl
               have S := S.frontAt 4 rfl
               have S := S.frontAt 4 rfl
               exact ⟨g23, D24, g27, D28, fr.sub ⟨rfl, rfl, rfl, rfl, rfl, rfl, rfl, rfl, trivial⟩, S, h⟩
             ·rintro a w ⟨g121, D122, g123, D124, fr, S, h⟩
              rw [WallsPlay.j6] at h
              refine cw_cut (fun a w => ∃ D125 : Dk, ∃ D126 : Dk, Fr 237 a [(1, (.slice A1 (List.length l1) c1)), (5, (.int .i64 y1)), (6, (.pointer (some ⟨g123, 0, none⟩))), (8, (.pointer (some ⟨g121, 0, none⟩))), (14, (.pointer (some ⟨g19, 0, none⟩))), (15, (.int .i64 x29)), (16, (.pointer (some ⟨g44, 0, none⟩))), (17, (.slice A45 (List.length y41.2.1) c46))] ∧ Sat w0 w [ddsA g121 D125, diskA g123 D126, twbA A45 c46 y41.2.1, stA 73 g44 [(.int .u8 y41.1), (.slice A42 (List.length y41.2.1) c43), (.int .i64 y41.2.2.1), (.int .u64 y41.2.2.2.1)], bookA g19 x20] ∧ (WallsPlay.j7 (WallsPlay.l1 k1 l1 y1) x20 y41 x29 D125 D126) = some r) ?_ ?_
              ·refine wp_seq ?_
               refine wp_region_sl [.one (0, true, some 152), .one (1, true, some 153), .one (2, true, some 154), .one (3, true, some 155), .one (4, true, some 156), .one (5, true, some 157), .one (6, true, some 158), .one (7, true, some 159), .one (8, true, some 160), .one (10, true, some 162), .one (11, true, some 163), .one (12, true, some 164), .one (13, true, some 165), .one (14, true, some 166), .one (9, false, some 161), .one (15, false, some 167), .one (16, true, some 168), .one (17, true, some 169)]
                [.one ⟨true, some 152, (Go.Op.fieldAddr 73 (Go.Operand.tmp 16) 0), 0, none⟩,
  .one ⟨true, some 153, (Go.Op.load 5 (Go.Operand.tmp 152)), 5, none⟩,
  .one ⟨true, some 154, (Go.Op.binOp Go.BinOp.rem 5 (Go.Operand.tmp 153) (Go.Operand.const (Go.Value.int Go.IntKind.u8 7)) 5), 5, none⟩,
  .one ⟨true, some 155, (Go.Op.binOp Go.BinOp.eql 5 (Go.Operand.tmp 154) (Go.Operand.const (Go.Value.int Go.IntKind.u8 5)) 5), 4, none⟩,
  .one ⟨true, some 156, (Go.Op.move (Go.Operand.tmp 155)), 4, none⟩,
  .one ⟨true, some 157, (Go.Op.move (Go.Operand.tmp 6)), 24, some (156, true)⟩,
  .one ⟨true, some 158, (Go.Op.fieldAddr 73 (Go.Operand.tmp 16) 2), 0, some (156, true)⟩,
  .one ⟨true, some 159, (Go.Op.load 3 (Go.Operand.tmp 158)), 3, some (156, true)⟩,
  .one ⟨true, some 160, (Go.Op.move (Go.Operand.tmp 17)), 45, some (156, true)⟩,
  .one ⟨true, some 162, (Go.Op.move (Go.Operand.tmp 8)), 28, some (156, true)⟩,
  .one ⟨true, some 163, (Go.Op.fieldAddr 73 (Go.Operand.tmp 16) 2), 0, some (156, true)⟩,
  .one ⟨true, some 164, (Go.Op.load 3 (Go.Operand.tmp 163)), 3, some (156, true)⟩,
  .one ⟨true, some 165, (Go.Op.fieldAddr 73 (Go.Operand.tmp 16) 1), 0, some (156, true)⟩,
  .one ⟨true, some 166, (Go.Op.load 45 (Go.Operand.tmp 165)), 45, some (156, true)⟩,
  .one ⟨false, some 161, (Go.Op.call { callee := (Go.Callee.value (Go.Operand.func 12)), args := #[(Go.Operand.tmp 157), (Go.Operand.tmp 159), (Go.Operand.tmp 160)], argTypes := #[24, 3, 45] }), 25, some (156, true)⟩,
  .one ⟨false, some 167, (Go.Op.call { callee := (Go.Callee.value (Go.Operand.func 13)), args := #[(Go.Operand.tmp 162), (Go.Operand.tmp 164), (Go.Operand.tmp 166)], argTypes := #[28, 3, 45] }), 25, some (156, true)⟩,
  .one ⟨true, some 168, (Go.Op.binOp Go.BinOp.neq 25 (Go.Operand.tmp 161) (Go.Operand.tmp 167) 25), 4, some (156, true)⟩,
  .one ⟨true, some 169, (Go.Op.pick (Go.Operand.tmp 156) (Go.Operand.tmp 168) (Go.Operand.const (Go.Value.bool false))), 4, none⟩]
                (fun w => Sat w0 w [stA 73 g44 [(.int .u8 y41.1), (.slice A42 (List.length y41.2.1) c43), (.int .i64 y41.2.2.1), (.int .u64 y41.2.2.2.1)], bookA g19 x20]) rfl (by kernel_rfl) (by kernel_rfl) (S.drew.mask [false, false, false, true, true]) ?_
               have S := S.drew
               refine sl_run orc_ok 1 rfl fr fun a fr => ?_
               refine sl_ldf orc_ok (fun _ S => Sat.stAt S 0 rfl rfl) fr rfl rfl rfl rfl rfl rfl rfl rfl (Sat.mask S [false, false, false, true, true]) fun a fr => ?_
               refine sl_run orc_ok 3 rfl fr fun a fr => ?_
               refine sl_split 156 fr rfl h (fun fr h => ?_) (fun fr h => ?_)
               ·refine sl_run orc_ok 2 rfl fr fun a fr => ?_
                refine sl_ldf orc_ok (fun _ S => Sat.stAt S 0 rfl rfl) fr rfl rfl rfl rfl rfl rfl rfl rfl (Sat.mask S [false, false, false, true, true]) fun a fr => ?_
                refine sl_run orc_ok 3 rfl fr fun a fr => ?_
                refine sl_ldf orc_ok (fun _ S => Sat.stAt S 0 rfl rfl) fr rfl rfl rfl rfl rfl rfl rfl rfl (Sat.mask S [false, false, false, true, true]) fun a fr => ?_
                refine sl_run orc_ok 1 rfl fr fun a fr => ?_
                refine sl_ldf orc_ok (fun _ S => Sat.stAt S 0 rfl rfl) fr rfl rfl rfl rfl rfl rfl rfl rfl (Sat.mask S [false, false, false, true, true]) fun a fr => ?_
                have S := S.frontAt 1 rfl
                obtain ⟨hc, h⟩ := ifs h
                refine sl_call fr rfl rfl rfl rfl rfl en12 (disk_write S y41.2.2.1 (Sat.twbAt S 2 rfl) hc) ?_
                rintro _ w ⟨rfl, hv, S⟩
                refine ⟨_, rfl, hv, (Sat.mask S [false, false, false, true, true]), fun a fr => ?_⟩
                obtain ⟨D140, hx, h⟩ := lt_h h
                rw [hx] at S
                have S := S.frontAt 1 rfl
                obtain ⟨hc, h⟩ := ifs h
                obtain ⟨y141, hn0, h⟩ := lt_h h
                obtain ⟨D142, hn1, h⟩ := lt_h h
                have H := ds_write (A := A42) (c := c43) (l := y41.2.1) (fr.int (d := 164) rfl) (fr.slice (d := 166) rfl) (fun _ S => Rk.at rq40_1 S) hc S
                rw [hn0, hn1] at H
                refine sl_call fr rfl rfl rfl rfl rfl en13 H ?_
                clear H
                rintro _ w ⟨rfl, hv, S⟩
                refine ⟨_, rfl, hv, (Sat.mask S [false, false, false, true, true]), fun a fr => ?_⟩
                refine sl_run orc_ok 2 rfl fr fun a fr => ?_
                refine sl_end ?_
                refine then_n ?_
                refine cw_if fr rfl h (fun h => ?_) (fun h => ?_)
                ·cases h
                ·refine wp_skip ?_
                 exact ⟨D142, D140, fr.sub ⟨rfl, rfl, rfl, rfl, rfl, rfl, rfl, rfl, trivial⟩, S, h⟩
               ·refine sl_run orc_ok 9 rfl fr fun a fr => ?_
                refine sl_no fr rfl (Sat.mask S [false, false, false, true, true]) rfl rfl fun a fr => ?_
                refine sl_no fr rfl (Sat.mask S [false, false, false, true, true]) rfl rfl fun a fr => ?_
                refine sl_run orc_ok 2 rfl fr fun a fr => ?_
                refine sl_end ?_
                refine then_n ?_
                refine cw_f fr rfl ?_
                refine wp_skip ?_
                exact ⟨D122, D124, fr.sub ⟨rfl, rfl, rfl, rfl, rfl, rfl, rfl, rfl, trivial⟩, S, h⟩
              ·rintro a w ⟨D125, D126, fr, S, h⟩
               rw [WallsPlay.j7] at h
               refine wp_seq ?_
               refine wp_region_lit ?_
               refine wl_run orc_ok 1 rfl fr fun a fr => ?_
               have S := S.frontAt 1 rfl
               obtain ⟨hc, h⟩ := ifs h
               obtain ⟨p127, hn0, h⟩ := lt_h h
               obtain ⟨x128, hn1, h⟩ := lt_h h
               obtain ⟨D129, hn2, h⟩ := lt_h h
               have H := open_call S hc
               rw [hn0, hn1, hn2] at H
               refine wl_call fr rfl rfl rfl rfl en28 H ?_
               clear H
               rintro _ w ⟨g132, A130, c131, rfl, hv, S⟩
               refine ⟨_, rfl, hv, fun a fr => ?_⟩
               refine wl_run orc_ok 7 rfl fr fun a fr => ?_
               refine wpList_nil ?_
               refine then_n ?_
               refine wp_seq ?_
               refine wp_region_lit ?_
               refine wl_run orc_ok 1 rfl fr fun a fr => ?_
               have S := S.frontAt 3 rfl
               obtain ⟨hc, h⟩ := ifs h
               obtain ⟨p133, hn0, h⟩ := lt_h h
               obtain ⟨x134, hn1, h⟩ := lt_h h
               obtain ⟨D135, hn2, h⟩ := lt_h h
               have H := r6_open hc.1 hc.2 S
               rw [hn0, hn1, hn2] at H
               refine wl_call fr rfl rfl rfl rfl en29 H ?_
               clear H
               rintro _ w ⟨g138, A136, c137, rfl, hv, S⟩
               refine ⟨_, rfl, hv, fun a fr => ?_⟩
               refine wl_run orc_ok 5 rfl fr fun a fr => ?_
               refine wpList_nil ?_
               refine then_n ?_
               refine wp_seq ?_
               refine wp_seq ?_
               refine wp_region_lit ?_
               refine wl_run orc_ok 5 rfl fr fun a fr => ?_
               obtain ⟨hc, h⟩ := ifs h
               obtain ⟨y139, hn0, h⟩ := lt_h h
               have H := samerecs_call (A := A130) (ca := c131) (a := p127) (B := A136) (cb := c137) (b := p133) (Sat.recAt S 4 rfl).1 (Sat.recAt S 1 rfl).1 (fr.slice (d := 184) rfl) (fr.slice (d := 185) rfl) hc S
               rw [hn0] at H
               refine wl_call fr rfl rfl rfl rfl en34 H ?_
               clear H
               rintro _ w ⟨rfl, S⟩
               refine ⟨_, rfl, rfl, fun a fr => ?_⟩
               refine wl_run orc_ok 2 rfl fr fun a fr => ?_
               refine wpList_nil ?_
               refine then_n ?_
               refine cw_if fr rfl h (fun h => ?_) (fun h => ?_)
               ·cases h
               ·refine wp_skip ?_
                refine then_n ?_
                refine wp_seq ?_
                refine wp_region_lit ?_
                refine wl_run orc_ok 1 rfl fr fun a fr => ?_
                have S := S.frontAt 8 rfl
                have S := S.frontAt 5 rfl
                obtain ⟨hc, h⟩ := ifs h
                refine wl_call fr rfl rfl rfl rfl en35 (book_records hc S) ?_
                rintro _ w ⟨rfl, S⟩
                refine ⟨_, rfl, rfl, fun a fr => ?_⟩
                refine wpList_nil ?_
                refine then_n ?_
                refine wp_seq ?_
                refine wp_region_lit ?_
                refine wl_run orc_ok 1 rfl fr fun a fr => ?_
                refine wl_run orc_ok 1 rfl fr fun a fr => ?_
                refine wpList_nil ?_
                refine then_n ?_
                refine wp_region_lit ?_
                refine wl_run orc_ok 1 rfl fr fun a fr => ?_
                refine wl_run orc_ok 1 rfl fr fun a fr => ?_
                refine wpList_nil ?_
                refine blk_n ?_
                have S : Sat w0 _ [bookA g19 (x20 + (List.length p127 : Nat)), rlgA g138 g121 x134, ddsA g121 D135, logA g132 g123 x128, diskA g123 D129, twbA A45 c46 y41.2.1, stA 73 g44 [(.int .u8 y41.1), (.slice A42 (List.length y41.2.1) c43), (.int .i64 y41.2.2.1), (.int .u64 y41.2.2.2.1)]] := S.mask [true, true, false, true, true, true, true, true]
                have S := S.frontAt 6 rfl
                have S := S.frontAt 6 rfl
                have S := S.frontAt 6 rfl
                have S := S.frontAt 6 rfl
                have S := S.frontAt 6 rfl
                have S := S.frontAt 6 rfl
                exact ⟨g138, x134, g121, D135, g132, x128, g123, D129, (x20 + (List.length p127 : Nat)), fr.sub ⟨rfl, rfl, rfl, rfl, rfl, rfl, rfl, rfl, rfl, rfl, trivial⟩, S, h⟩
            ·refine wp_seq ?_
             refine wp_region_sl [.one (0, true, some 89), .one (1, true, some 90), .one (2, true, some 91), .one (4, true, some 93), .one (5, true, some 94), .one (6, true, some 95), .one (3, false, some 92), .one (7, false, some 96), .one (8, true, some 97)]
              [.one ⟨true, some 89, (Go.Op.move (Go.Operand.tmp 10)), 65, none⟩,
  .one ⟨true, some 90, (Go.Op.fieldAddr 73 (Go.Operand.tmp 16) 2), 0, none⟩,
  .one ⟨true, some 91, (Go.Op.load 3 (Go.Operand.tmp 90)), 3, none⟩,
  .one ⟨true, some 93, (Go.Op.move (Go.Operand.tmp 12)), 69, none⟩,
  .one ⟨true, some 94, (Go.Op.fieldAddr 73 (Go.Operand.tmp 16) 2), 0, none⟩,
  .one ⟨true, some 95, (Go.Op.load 3 (Go.Operand.tmp 94)), 3, none⟩,
  .one ⟨false, some 92, (Go.Op.call { callee := (Go.Callee.value (Go.Operand.func 36)), args := #[(Go.Operand.tmp 89), (Go.Operand.tmp 91)], argTypes := #[65, 3] }), 4, none⟩,
  .one ⟨false, some 96, (Go.Op.call { callee := (Go.Callee.value (Go.Operand.func 37)), args := #[(Go.Operand.tmp 93), (Go.Operand.tmp 95)], argTypes := #[69, 3] }), 4, none⟩,
  .one ⟨true, some 97, (Go.Op.binOp Go.BinOp.neq 4 (Go.Operand.tmp 92) (Go.Operand.tmp 96) 4), 4, none⟩]
              (fun w => Sat w0 w [twbA A45 c46 y41.2.1, stA 73 g44 [(.int .u8 y41.1), (.slice A42 (List.length y41.2.1) c43), (.int .i64 y41.2.2.1), (.int .u64 y41.2.2.2.1)], bookA g19 x20]) rfl (by kernel_rfl) (by kernel_rfl) (S.drew.mask [true, true, true, false, false, false, false]) ?_
             have S := S.drew
             refine sl_run orc_ok 2 rfl fr fun a fr => ?_
             refine sl_ldf orc_ok (fun _ S => Sat.stAt S 1 rfl rfl) fr rfl rfl rfl rfl rfl rfl rfl rfl (Sat.mask S [true, true, true, false, false, false, false]) fun a fr => ?_
             refine sl_run orc_ok 2 rfl fr fun a fr => ?_
             refine sl_ldf orc_ok (fun _ S => Sat.stAt S 1 rfl rfl) fr rfl rfl rfl rfl rfl rfl rfl rfl (Sat.mask S [true, true, true, false, false, false, false]) fun a fr => ?_
             have S := S.frontAt 6 rfl
             have S := S.frontAt 6 rfl
             obtain ⟨hc, h⟩ := ifs h
             obtain ⟨y147, hn0, h⟩ := lt_h h
             have H := room_call S hc (fr.int (d := 91) rfl)
             rw [hn0] at H
             refine sl_call fr rfl rfl rfl rfl rfl en36 H ?_
             clear H
             rintro _ w ⟨rfl, S⟩
             refine ⟨_, rfl, rfl, (Sat.mask S [false, false, true, true, true, false, false]), fun a fr => ?_⟩
             have S := S.frontAt 6 rfl
             have S := S.frontAt 6 rfl
             obtain ⟨hc, h⟩ := ifs h
             obtain ⟨y148, hn0, h⟩ := lt_h h
             have H := r6_room (fr.int (d := 95) rfl) hc S
             rw [hn0] at H
             refine sl_call fr rfl rfl rfl rfl rfl en37 H ?_
             clear H
             rintro _ w ⟨rfl, S⟩
             refine ⟨_, rfl, rfl, (Sat.mask S [false, false, false, false, true, true, true]), fun a fr => ?_⟩
             refine sl_run orc_ok 1 rfl fr fun a fr => ?_
             refine sl_end ?_
             refine then_n ?_
             refine cw_if fr rfl h (fun h => ?_) (fun h => ?_)
             ·cases h
             ·refine wp_skip ?_
              refine blk_n ?_
              exact ⟨g21, x22, g23, D24, g25, x26, g27, D28, x20, fr.sub ⟨rfl, rfl, rfl, rfl, rfl, rfl, rfl, rfl, rfl, rfl, trivial⟩, S, h⟩
       ·refine wp_region_lit ?_
        refine wl_run orc_ok 2 rfl fr fun a fr => ?_
        refine wpList_nil ?_
        refine then_n ?_
        refine cw_if fr rfl h (fun h => ?_) (fun h => ?_)
        ·refine wp_seq ?_
         refine wp_region_sl [.one (0, true, some 101), .one (1, true, some 102), .one (3, true, some 104), .one (4, true, some 105), .one (5, true, some 106), .one (2, false, some 103), .one (6, false, some 107), .one (7, true, some 108)]
          [.one ⟨true, some 101, (Go.Op.move (Go.Operand.tmp 10)), 65, none⟩,
  .one ⟨true, some 102, (Go.Op.move (Go.Operand.tmp 17)), 45, none⟩,
  .one ⟨true, some 104, (Go.Op.move (Go.Operand.tmp 12)), 69, none⟩,
  .one ⟨true, some 105, (Go.Op.fieldAddr 73 (Go.Operand.tmp 16) 1), 0, none⟩,
  .one ⟨true, some 106, (Go.Op.load 45 (Go.Operand.tmp 105)), 45, none⟩,
  .one ⟨false, some 103, (Go.Op.call { callee := (Go.Callee.value (Go.Operand.func 30)), args := #[(Go.Operand.tmp 101), (Go.Operand.tmp 102)], argTypes := #[65, 45] }), 25, none⟩,
  .one ⟨false, some 107, (Go.Op.call { callee := (Go.Callee.value (Go.Operand.func 31)), args := #[(Go.Operand.tmp 104), (Go.Operand.tmp 106)], argTypes := #[69, 45] }), 25, none⟩,
  .one ⟨true, some 108, (Go.Op.binOp Go.BinOp.neq 25 (Go.Operand.tmp 103) (Go.Operand.tmp 107) 25), 4, none⟩]
          (fun w => Sat w0 w [stA 73 g44 [(.int .u8 y41.1), (.slice A42 (List.length y41.2.1) c43), (.int .i64 y41.2.2.1), (.int .u64 y41.2.2.2.1)], bookA g19 x20]) rfl (by kernel_rfl) (by kernel_rfl) (S.drew.mask [false, true, true, false, false, false, false]) ?_
         have S := S.drew
         refine sl_run orc_ok 4 rfl fr fun a fr => ?_
         refine sl_ldf orc_ok (fun _ S => Sat.stAt S 0 rfl rfl) fr rfl rfl rfl rfl rfl rfl rfl rfl (Sat.mask S [false, true, true, false, false, false, false]) fun a fr => ?_
         have S := S.frontAt 6 rfl
         have S := S.frontAt 6 rfl
         obtain ⟨hc, h⟩ := ifs h
         obtain ⟨y149, hn0, h⟩ := lt_h h
         obtain ⟨x150, hn1, h⟩ := lt_h h
         obtain ⟨D151, hn2, h⟩ := lt_h h
         have H := add_callI (A := A45) (c := c46) (l := y41.2.1) S (Sat.twbAt S 2 rfl) (fr.slice (d := 102) rfl) hc
         rw [hn0, hn1, hn2] at H
         refine sl_call fr rfl rfl rfl rfl rfl en30 H ?_
         clear H
         rintro _ w ⟨rfl, hv, S⟩
         refine ⟨_, rfl, hv, (Sat.mask S [false, false, false, true, true, false, false]), fun a fr => ?_⟩
         have S := S.frontAt 6 rfl
         have S := S.frontAt 6 rfl
         obtain ⟨hc, h⟩ := ifs h
         obtain ⟨y152, hn0, h⟩ := lt_h h
         obtain ⟨x153, hn1, h⟩ := lt_h h
         obtain ⟨D154, hn2, h⟩ := lt_h h
         have H := r6_addI (A := A42) (c := c43) (l := y41.2.1) (fun _ S => Rk.at rq40_1 S) (fr.slice (d := 106) rfl) hc S
         rw [hn0, hn1, hn2] at H
         refine sl_call fr rfl rfl rfl rfl rfl en31 H ?_
         clear H
         rintro _ w ⟨rfl, hv, S⟩
         refine ⟨_, rfl, hv, (Sat.mask S [false, false, false, false, false, true, true]), fun a fr => ?_⟩
         refine sl_run orc_ok 1 rfl fr fun a fr => ?_
         refine sl_end ?_
         refine then_n ?_
         refine cw_if fr rfl h (fun h => ?_) (fun h => ?_)
         ·cases h
         ·refine wp_skip ?_
          refine blk_n ?_
          exact ⟨g21, x153, g23, D154, g25, x150, g27, D151, x20, fr.sub ⟨rfl, rfl, rfl, rfl, rfl, rfl, rfl, rfl, rfl, rfl, trivial⟩, S, h⟩
        ·refine wp_seq ?_
         refine wp_region_lit ?_
         refine wl_run orc_ok 2 rfl fr fun a fr => ?_
         refine wpList_nil ?_
         refine then_n ?_
         refine cw_if fr rfl h (fun h => ?_) (fun h => ?_)
         ·refine wp_seq ?_
          refine wp_region_lit ?_
          refine wl_run orc_ok 1 rfl fr fun a fr => ?_
          have S := S.frontAt 6 rfl
          have S := S.frontAt 6 rfl
          obtain ⟨D155, hn0, h⟩ := lt_h h
          have H := force_call S
          rw [hn0] at H
          refine wl_call fr rfl rfl rfl rfl en32 H ?_
          clear H
          rintro _ w ⟨rfl, S⟩
          refine ⟨_, rfl, rfl, fun a fr => ?_⟩
          refine wl_run orc_ok 1 rfl fr fun a fr => ?_
          have S := S.frontAt 6 rfl
          have S := S.frontAt 6 rfl
          obtain ⟨hc, h⟩ := ifs h
          obtain ⟨D156, hn0, h⟩ := lt_h h
          have H := r6_force hc S
          rw [hn0] at H
          refine wl_call fr rfl rfl rfl rfl en33 H ?_
          clear H
          rintro _ w ⟨rfl, S⟩
          refine ⟨_, rfl, rfl, fun a fr => ?_⟩
          refine wl_run orc_ok 1 rfl fr fun a fr => ?_
          refine wpList_nil ?_
          refine then_n ?_
          refine cw_f fr rfl ?_
          refine wp_skip ?_
          refine blk_n ?_
          exact ⟨g21, x22, g23, D156, g25, x26, g27, D155, x20, fr.sub ⟨rfl, rfl, rfl, rfl, rfl, rfl, rfl, rfl, rfl, rfl, trivial⟩, S, h⟩
         ·refine wp_seq ?_
          refine wp_seq ?_
          refine wp_region_lit ?_
          refine wl_run orc_ok 2 rfl fr fun a fr => ?_
          refine wpList_nil ?_
          refine then_n ?_
          refine cw_if fr rfl h (fun h => ?_) (fun h => ?_)
          ·refine wp_skip ?_
           refine then_n ?_
           refine cw_if fr rfl h (fun h => ?_) (fun h => ?_)
           ·refine cw_cut (fun a w => ∃ g157 : Nat, ∃ D158 : Dk, ∃ g159 : Nat, ∃ D160 : Dk, Fr 237 a [(1, (.slice A1 (List.length l1) c1)), (5, (.int .i64 y1)), (6, (.pointer (some ⟨g159, 0, none⟩))), (8, (.pointer (some ⟨g157, 0, none⟩))), (14, (.pointer (some ⟨g19, 0, none⟩))), (15, (.int .i64 x29)), (16, (.pointer (some ⟨g44, 0, none⟩))), (17, (.slice A45 (List.length y41.2.1) c46))] ∧ Sat w0 w [ddsA g157 D158, diskA g159 D160, twbA A45 c46 y41.2.1, stA 73 g44 [(.int .u8 y41.1), (.slice A42 (List.length y41.2.1) c43), (.int .i64 y41.2.2.1), (.int .u64 y41.2.2.2.1)], bookA g19 x20] ∧ (WallsPlay.j8 (WallsPlay.l1 k1 l1 y1) y41 x20 x29 D158 D160) = some r) ?_ ?_
            ·refine wp_seq ?_
             refine wp_region_lit ?_
             refine wl_run orc_ok 1 rfl fr fun a fr => ?_
             refine wl_ldf orc_ok (Sat.stAt S 1 rfl rfl) fr rfl rfl rfl rfl rfl rfl rfl fun a fr => ?_
             refine wl_run orc_ok 2 rfl fr fun a fr => ?_
             refine wpList_nil ?_
             refine then_n ?_
             refine cw_if fr rfl h (fun h => ?_) (fun h => ?_)
             ·refine wp_seq ?_
              refine wp_region_lit ?_
              refine wl_run orc_ok 2 rfl fr fun a fr => ?_
              refine wl_ldf orc_ok (Sat.stAt S 1 rfl rfl) fr rfl rfl rfl rfl rfl rfl rfl fun a fr => ?_
              refine wl_run orc_ok 1 rfl fr fun a fr => ?_
              refine wl_ldf orc_ok (Sat.stAt S 1 rfl rfl) fr rfl rfl rfl rfl rfl rfl rfl fun a fr => ?_
              refine wl_run orc_ok 1 rfl fr fun a fr => ?_
              have S := S.frontAt 6 rfl
              obtain ⟨hc, h⟩ := ifs h
              refine wl_call fr rfl rfl rfl rfl en20 (disk_fail S (fr.int (d := 127) rfl) (fr.int (d := 130) rfl) hc) ?_
              rintro _ w ⟨g179, rfl, S⟩
              refine ⟨_, rfl, rfl, fun a fr => ?_⟩
              obtain ⟨D180, hx, h⟩ := lt_h h
              rw [hx] at S
              refine wl_run orc_ok 5 rfl fr fun a fr => ?_
              refine wpList_nil ?_
              refine then_n ?_
              refine wp_seq ?_
              refine wp_region_lit ?_
              refine wl_run orc_ok 2 rfl fr fun a fr => ?_
              refine wl_ldf orc_ok (Sat.stAt S 3 rfl rfl) fr rfl rfl rfl rfl rfl rfl rfl fun a fr => ?_
              refine wl_run orc_ok 1 rfl fr fun a fr => ?_
              refine wl_ldf orc_ok (Sat.stAt S 3 rfl rfl) fr rfl rfl rfl rfl rfl rfl rfl fun a fr => ?_
              refine wl_run orc_ok 1 rfl fr fun a fr => ?_
              have S := S.frontAt 6 rfl
              obtain ⟨hc, h⟩ := ifs h
              obtain ⟨D181, hn0, h⟩ := lt_h h
              have H := ds_fail (fr.int (d := 137) rfl) (fr.int (d := 140) rfl) hc.1 hc.2 S
              rw [hn0] at H
              refine wl_call fr rfl rfl rfl rfl en21 H ?_
              clear H
              rintro _ w ⟨g182, rfl, S⟩
              refine ⟨_, rfl, rfl, fun a fr => ?_⟩
              refine wl_run orc_ok 5 rfl fr fun a fr => ?_
              refine wpList_nil ?_
              refine then_n ?_
              refine wp_seq ?_
              refine wp_seq ?_
              refine wp_region_lit ?_
              refine wl_run orc_ok 6 rfl fr fun a fr => ?_
              refine wpList_nil ?_
              refine then_n ?_
              refine cw_f fr rfl ?_
              refine wp_skip ?_
              refine then_n ?_
              refine wp_seq ?_
              refine wp_region_lit ?_
              refine wl_run orc_ok 1 rfl fr fun a fr => ?_
              have S : Sat w0 _ [ddsA g182 D181, ddsA g23 D24, diskA g179 D180, twbA A45 c46 y41.2.1, stA 73 g44 [(.int .u8 y41.1), (.slice A42 (List.length y41.2.1) c43), (.int .i64 y41.2.2.1), (.int .u64 y41.2.2.2.1)], bookA g19 x20, rlgA g21 g23 x22] := S.mask [true, true, true, false, true, true, true, true, false]
              refine wl_run orc_ok 1 rfl fr fun a fr => ?_
              refine wpList_nil ?_
              refine then_n ?_
              refine wp_region_lit ?_
              refine wl_run orc_ok 1 rfl fr fun a fr => ?_
              have S : Sat w0 _ [ddsA g182 D181, diskA g179 D180, twbA A45 c46 y41.2.1, stA 73 g44 [(.int .u8 y41.1), (.slice A42 (List.length y41.2.1) c43), (.int .i64 y41.2.2.1), (.int .u64 y41.2.2.2.1)], bookA g19 x20] := S.mask [true, false, true, true, true, true, false]
              refine wl_run orc_ok 1 rfl fr fun a fr => ?_
              refine wpList_nil ?_
              exact ⟨g182, D181, g179, D180, fr.sub ⟨rfl, rfl, rfl, rfl, rfl, rfl, rfl, rfl, trivial⟩, S, h⟩
             ·refine wp_skip ?_
              have S : Sat w0 _ [twbA A45 c46 y41.2.1, stA 73 g44 [(.int .u8 y41.1), (.slice A42 (List.length y41.2.1) c43), (.int .i64 y41.2.2.1), (.int .u64 y41.2.2.2.1)], bookA g19 x20, ddsA g23 D24, diskA g27 D28] := S.mask [true, true, true, false, true, false, true]
              have S := S.frontAt 2 rfl
              have S := S.frontAt 2 rfl
              have S := S.frontAt 2 rfl
              have S := S.frontAt 4 rfl
              have S := S.frontAt 4 rfl
              exact ⟨g23, D24, g27, D28, fr.sub ⟨rfl, rfl, rfl, rfl, rfl, rfl, rfl, rfl, trivial⟩, S, h⟩
            ·rintro a w ⟨g157, D158, g159, D160, fr, S, h⟩
             rw [WallsPlay.j8] at h
             refine cw_cut (fun a w => ∃ D161 : Dk, ∃ D162 : Dk, Fr 237 a [(1, (.slice A1 (List.length l1) c1)), (5, (.int .i64 y1)), (6, (.pointer (some ⟨g159, 0, none⟩))), (8, (.pointer (some ⟨g157, 0, none⟩))), (14, (.pointer (some ⟨g19, 0, none⟩))), (15, (.int .i64 x29)), (16, (.pointer (some ⟨g44, 0, none⟩))), (17, (.slice A45 (List.length y41.2.1) c46))] ∧ Sat w0 w [ddsA g157 D161, diskA g159 D162, twbA A45 c46 y41.2.1, stA 73 g44 [(.int .u8 y41.1), (.slice A42 (List.length y41.2.1) c43), (.int .i64 y41.2.2.1), (.int .u64 y41.2.2.2.1)], bookA g19 x20] ∧ (WallsPlay.j9 (WallsPlay.l1 k1 l1 y1) x20 y41 x29 D161 D162) = some r) ?_ ?_
             ·refine wp_seq ?_
              refine wp_region_sl [.one (0, true, some 152), .one (1, true, some 153), .one (2, true, some 154), .one (3, true, some 155), .one (4, true, some 156), .one (5, true, some 157), .one (6, true, some 158), .one (7, true, some 159), .one (8, true, some 160), .one (10, true, some 162), .one (11, true, some 163), .one (12, true, some 164), .one (13, true, some 165), .one (14, true, some 166), .one (9, false, some 161), .one (15, false, some 167), .one (16, true, some 168), .one (17, true, some 169)]
               [.one ⟨true, some 152, (Go.Op.fieldAddr 73 (Go.Operand.tmp 16) 0), 0, none⟩,
  .one ⟨true, some 153, (Go.Op.load 5 (Go.Operand.tmp 152)), 5, none⟩,
  .one ⟨true, some 154, (Go.Op.binOp Go.BinOp.rem 5 (Go.Operand.tmp 153) (Go.Operand.const (Go.Value.int Go.IntKind.u8 7)) 5), 5, none⟩,
  .one ⟨true, some 155, (Go.Op.binOp Go.BinOp.eql 5 (Go.Operand.tmp 154) (Go.Operand.const (Go.Value.int Go.IntKind.u8 5)) 5), 4, none⟩,
  .one ⟨true, some 156, (Go.Op.move (Go.Operand.tmp 155)), 4, none⟩,
  .one ⟨true, some 157, (Go.Op.move (Go.Operand.tmp 6)), 24, some (156, true)⟩,
  .one ⟨true, some 158, (Go.Op.fieldAddr 73 (Go.Operand.tmp 16) 2), 0, some (156, true)⟩,
  .one ⟨true, some 159, (Go.Op.load 3 (Go.Operand.tmp 158)), 3, some (156, true)⟩,
  .one ⟨true, some 160, (Go.Op.move (Go.Operand.tmp 17)), 45, some (156, true)⟩,
  .one ⟨true, some 162, (Go.Op.move (Go.Operand.tmp 8)), 28, some (156, true)⟩,
  .one ⟨true, some 163, (Go.Op.fieldAddr 73 (Go.Operand.tmp 16) 2), 0, some (156, true)⟩,
  .one ⟨true, some 164, (Go.Op.load 3 (Go.Operand.tmp 163)), 3, some (156, true)⟩,
  .one ⟨true, some 165, (Go.Op.fieldAddr 73 (Go.Operand.tmp 16) 1), 0, some (156, true)⟩,
  .one ⟨true, some 166, (Go.Op.load 45 (Go.Operand.tmp 165)), 45, some (156, true)⟩,
  .one ⟨false, some 161, (Go.Op.call { callee := (Go.Callee.value (Go.Operand.func 12)), args := #[(Go.Operand.tmp 157), (Go.Operand.tmp 159), (Go.Operand.tmp 160)], argTypes := #[24, 3, 45] }), 25, some (156, true)⟩,
  .one ⟨false, some 167, (Go.Op.call { callee := (Go.Callee.value (Go.Operand.func 13)), args := #[(Go.Operand.tmp 162), (Go.Operand.tmp 164), (Go.Operand.tmp 166)], argTypes := #[28, 3, 45] }), 25, some (156, true)⟩,
  .one ⟨true, some 168, (Go.Op.binOp Go.BinOp.neq 25 (Go.Operand.tmp 161) (Go.Operand.tmp 167) 25), 4, some (156, true)⟩,
  .one ⟨true, some 169, (Go.Op.pick (Go.Operand.tmp 156) (Go.Operand.tmp 168) (Go.Operand.const (Go.Value.bool false))), 4, none⟩]
               (fun w => Sat w0 w [stA 73 g44 [(.int .u8 y41.1), (.slice A42 (List.length y41.2.1) c43), (.int .i64 y41.2.2.1), (.int .u64 y41.2.2.2.1)], bookA g19 x20]) rfl (by kernel_rfl) (by kernel_rfl) (S.drew.mask [false, false, false, true, true]) ?_
              have S := S.drew
              refine sl_run orc_ok 1 rfl fr fun a fr => ?_
              refine sl_ldf orc_ok (fun _ S => Sat.stAt S 0 rfl rfl) fr rfl rfl rfl rfl rfl rfl rfl rfl (Sat.mask S [false, false, false, true, true]) fun a fr => ?_
              refine sl_run orc_ok 3 rfl fr fun a fr => ?_
              refine sl_split 156 fr rfl h (fun fr h => ?_) (fun fr h => ?_)
              ·refine sl_run orc_ok 2 rfl fr fun a fr => ?_
               refine sl_ldf orc_ok (fun _ S => Sat.stAt S 0 rfl rfl) fr rfl rfl rfl rfl rfl rfl rfl rfl (Sat.mask S [false, false, false, true, true]) fun a fr => ?_
               refine sl_run orc_ok 3 rfl fr fun a fr => ?_
               refine sl_ldf orc_ok (fun _ S => Sat.stAt S 0 rfl rfl) fr rfl rfl rfl rfl rfl rfl rfl rfl (Sat.mask S [false, false, false, true, true]) fun a fr => ?_
               refine sl_run orc_ok 1 rfl fr fun a fr => ?_
               refine sl_ldf orc_ok (fun _ S => Sat.stAt S 0 rfl rfl) fr rfl rfl rfl rfl rfl rfl rfl rfl (Sat.mask S [false, false, false, true, true]) fun a fr => ?_
               have S := S.frontAt 1 rfl
               obtain ⟨hc, h⟩ := ifs h
               refine sl_call fr rfl rfl rfl rfl rfl en12 (disk_write S y41.2.2.1 (Sat.twbAt S 2 rfl) hc) ?_
               rintro _ w ⟨rfl, hv, S⟩
               refine ⟨_, rfl, hv, (Sat.mask S [false, false, false, true, true]), fun a fr => ?_⟩
               obtain ⟨D176, hx, h⟩ := lt_h h
               rw [hx] at S
               have S := S.frontAt 1 rfl
               obtain ⟨hc, h⟩ := ifs h
               obtain ⟨y177, hn0, h⟩ := lt_h h
               obtain ⟨D178, hn1, h⟩ := lt_h h
               have H := ds_write (A := A42) (c := c43) (l := y41.2.1) (fr.int (d := 164) rfl) (fr.slice (d := 166) rfl) (fun _ S => Rk.at rq40_1 S) hc S
               rw [hn0, hn1] at H
               refine sl_call fr rfl rfl rfl rfl rfl en13 H ?_
               clear H
               rintro _ w ⟨rfl, hv, S⟩
               refine ⟨_, rfl, hv, (Sat.mask S [false, false, false, true, true]), fun a fr => ?_⟩
               refine sl_run orc_ok 2 rfl fr fun a fr => ?_
               refine sl_end ?_
               refine then_n ?_
               refine cw_if fr rfl h (fun h => ?_) (fun h => ?_)
               ·cases h
               ·refine wp_skip ?_
                exact ⟨D178, D176, fr.sub ⟨rfl, rfl, rfl, rfl, rfl, rfl, rfl, rfl, trivial⟩, S, h⟩
              ·refine sl_run orc_ok 9 rfl fr fun a fr => ?_
               refine sl_no fr rfl (Sat.mask S [false, false, false, true, true]) rfl rfl fun a fr => ?_
               refine sl_no fr rfl (Sat.mask S [false, false, false, true, true]) rfl rfl fun a fr => ?_
               refine sl_run orc_ok 2 rfl fr fun a fr => ?_
               refine sl_end ?_
               refine then_n ?_
               refine cw_f fr rfl ?_
               refine wp_skip ?_
               exact ⟨D158, D160, fr.sub ⟨rfl, rfl, rfl, rfl, rfl, rfl, rfl, rfl, trivial⟩, S, h⟩
             ·rintro a w ⟨D161, D162, fr, S, h⟩
              rw [WallsPlay.j9] at h
              refine wp_seq ?_
              refine wp_region_lit ?_
              refine wl_run orc_ok 1 rfl fr fun a fr => ?_
              have S := S.frontAt 1 rfl
              obtain ⟨hc, h⟩ := ifs h
              obtain ⟨p163, hn0, h⟩ := lt_h h
              obtain ⟨x164, hn1, h⟩ := lt_h h
              obtain ⟨D165, hn2, h⟩ := lt_h h
              have H := open_call S hc
              rw [hn0, hn1, hn2] at H
              refine wl_call fr rfl rfl rfl rfl en28 H ?_
              clear H
              rintro _ w ⟨g168, A166, c167, rfl, hv, S⟩
              refine ⟨_, rfl, hv, fun a fr => ?_⟩
              refine wl_run orc_ok 7 rfl fr fun a fr => ?_
              refine wpList_nil ?_
              refine then_n ?_
              refine wp_seq ?_
              refine wp_region_lit ?_
              refine wl_run orc_ok 1 rfl fr fun a fr => ?_
              have S := S.frontAt 3 rfl
              obtain ⟨hc, h⟩ := ifs h
              obtain ⟨p169, hn0, h⟩ := lt_h h
              obtain ⟨x170, hn1, h⟩ := lt_h h
              obtain ⟨D171, hn2, h⟩ := lt_h h
              have H := r6_open hc.1 hc.2 S
              rw [hn0, hn1, hn2] at H
              refine wl_call fr rfl rfl rfl rfl en29 H ?_
              clear H
              rintro _ w ⟨g174, A172, c173, rfl, hv, S⟩
              refine ⟨_, rfl, hv, fun a fr => ?_⟩
              refine wl_run orc_ok 5 rfl fr fun a fr => ?_
              refine wpList_nil ?_
              refine then_n ?_
              refine wp_seq ?_
              refine wp_seq ?_
              refine wp_region_lit ?_
              refine wl_run orc_ok 5 rfl fr fun a fr => ?_
              obtain ⟨hc, h⟩ := ifs h
              obtain ⟨y175, hn0, h⟩ := lt_h h
              have H := samerecs_call (A := A166) (ca := c167) (a := p163) (B := A172) (cb := c173) (b := p169) (Sat.recAt S 4 rfl).1 (Sat.recAt S 1 rfl).1 (fr.slice (d := 184) rfl) (fr.slice (d := 185) rfl) hc S
              rw [hn0] at H
              refine wl_call fr rfl rfl rfl rfl en34 H ?_
              clear H
              rintro _ w ⟨rfl, S⟩
              refine ⟨_, rfl, rfl, fun a fr => ?_⟩
              refine wl_run orc_ok 2 rfl fr fun a fr => ?_
              refine wpList_nil ?_
              refine then_n ?_
              refine cw_if fr rfl h (fun h => ?_) (fun h => ?_)
              ·cases h
              ·refine wp_skip ?_
               refine then_n ?_
               refine wp_seq ?_
               refine wp_region_lit ?_
               refine wl_run orc_ok 1 rfl fr fun a fr => ?_
               have S := S.frontAt 8 rfl
               have S := S.frontAt 5 rfl
               obtain ⟨hc, h⟩ := ifs h
               refine wl_call fr rfl rfl rfl rfl en35 (book_records hc S) ?_
               rintro _ w ⟨rfl, S⟩
               refine ⟨_, rfl, rfl, fun a fr => ?_⟩
               refine wpList_nil ?_
               refine then_n ?_
               refine wp_seq ?_
               refine wp_region_lit ?_
               refine wl_run orc_ok 1 rfl fr fun a fr => ?_
               refine wl_run orc_ok 1 rfl fr fun a fr => ?_
               refine wpList_nil ?_
               refine then_n ?_
               refine wp_region_lit ?_
               refine wl_run orc_ok 1 rfl fr fun a fr => ?_
               refine wl_run orc_ok 1 rfl fr fun a fr => ?_
               refine wpList_nil ?_
               refine blk_n ?_
               have S : Sat w0 _ [bookA g19 (x20 + (List.length p163 : Nat)), rlgA g174 g157 x170, ddsA g157 D171, logA g168 g159 x164, diskA g159 D165, twbA A45 c46 y41.2.1, stA 73 g44 [(.int .u8 y41.1), (.slice A42 (List.length y41.2.1) c43), (.int .i64 y41.2.2.1), (.int .u64 y41.2.2.2.1)]] := S.mask [true, true, false, true, true, true, true, true]
               have S := S.frontAt 6 rfl
               have S := S.frontAt 6 rfl
               have S := S.frontAt 6 rfl
               have S := S.frontAt 6 rfl
               have S := S.frontAt 6 rfl
               have S := S.frontAt 6 rfl
               exact ⟨g174, x170, g157, D171, g168, x164, g159, D165, (x20 + (List.length p163 : Nat)), fr.sub ⟨rfl, rfl, rfl, rfl, rfl, rfl, rfl, rfl, rfl, rfl, trivial⟩, S, h⟩
           ·refine wp_seq ?_
            refine wp_region_sl [.one (0, true, some 89), .one (1, true, some 90), .one (2, true, some 91), .one (4, true, some 93), .one (5, true, some 94), .one (6, true, some 95), .one (3, false, some 92), .one (7, false, some 96), .one (8, true, some 97)]
             [.one ⟨true, some 89, (Go.Op.move (Go.Operand.tmp 10)), 65, none⟩,
  .one ⟨true, some 90, (Go.Op.fieldAddr 73 (Go.Operand.tmp 16) 2), 0, none⟩,
  .one ⟨true, some 91, (Go.Op.load 3 (Go.Operand.tmp 90)), 3, none⟩,
  .one ⟨true, some 93, (Go.Op.move (Go.Operand.tmp 12)), 69, none⟩,
  .one ⟨true, some 94, (Go.Op.fieldAddr 73 (Go.Operand.tmp 16) 2), 0, none⟩,
  .one ⟨true, some 95, (Go.Op.load 3 (Go.Operand.tmp 94)), 3, none⟩,
  .one ⟨false, some 92, (Go.Op.call { callee := (Go.Callee.value (Go.Operand.func 36)), args := #[(Go.Operand.tmp 89), (Go.Operand.tmp 91)], argTypes := #[65, 3] }), 4, none⟩,
  .one ⟨false, some 96, (Go.Op.call { callee := (Go.Callee.value (Go.Operand.func 37)), args := #[(Go.Operand.tmp 93), (Go.Operand.tmp 95)], argTypes := #[69, 3] }), 4, none⟩,
  .one ⟨true, some 97, (Go.Op.binOp Go.BinOp.neq 4 (Go.Operand.tmp 92) (Go.Operand.tmp 96) 4), 4, none⟩]
             (fun w => Sat w0 w [twbA A45 c46 y41.2.1, stA 73 g44 [(.int .u8 y41.1), (.slice A42 (List.length y41.2.1) c43), (.int .i64 y41.2.2.1), (.int .u64 y41.2.2.2.1)], bookA g19 x20]) rfl (by kernel_rfl) (by kernel_rfl) (S.drew.mask [true, true, true, false, false, false, false]) ?_
            have S := S.drew
            refine sl_run orc_ok 2 rfl fr fun a fr => ?_
            refine sl_ldf orc_ok (fun _ S => Sat.stAt S 1 rfl rfl) fr rfl rfl rfl rfl rfl rfl rfl rfl (Sat.mask S [true, true, true, false, false, false, false]) fun a fr => ?_
            refine sl_run orc_ok 2 rfl fr fun a fr => ?_
            refine sl_ldf orc_ok (fun _ S => Sat.stAt S 1 rfl rfl) fr rfl rfl rfl rfl rfl rfl rfl rfl (Sat.mask S [true, true, true, false, false, false, false]) fun a fr => ?_
            have S := S.frontAt 6 rfl
            have S := S.frontAt 6 rfl
            obtain ⟨hc, h⟩ := ifs h
            obtain ⟨y183, hn0, h⟩ := lt_h h
            have H := room_call S hc (fr.int (d := 91) rfl)
            rw [hn0] at H
            refine sl_call fr rfl rfl rfl rfl rfl en36 H ?_
            clear H
            rintro _ w ⟨rfl, S⟩
            refine ⟨_, rfl, rfl, (Sat.mask S [false, false, true, true, true, false, false]), fun a fr => ?_⟩
            have S := S.frontAt 6 rfl
            have S := S.frontAt 6 rfl
            obtain ⟨hc, h⟩ := ifs h
            obtain ⟨y184, hn0, h⟩ := lt_h h
            have H := r6_room (fr.int (d := 95) rfl) hc S
            rw [hn0] at H
            refine sl_call fr rfl rfl rfl rfl rfl en37 H ?_
            clear H
            rintro _ w ⟨rfl, S⟩
            refine ⟨_, rfl, rfl, (Sat.mask S [false, false, false, false, true, true, true]), fun a fr => ?_⟩
            refine sl_run orc_ok 1 rfl fr fun a fr => ?_
            refine sl_end ?_
            refine then_n ?_
            refine cw_if fr rfl h (fun h => ?_) (fun h => ?_)
            ·cases h
            ·refine wp_skip ?_
             refine blk_n ?_
             exact ⟨g21, x22, g23, D24, g25, x26, g27, D28, x20, fr.sub ⟨rfl, rfl, rfl, rfl, rfl, rfl, rfl, rfl, rfl, rfl, trivial⟩, S, h⟩
          ·refine wp_seq ?_
           refine wp_region_lit ?_
           refine wl_run orc_ok 2 rfl fr fun a fr => ?_
           refine wpList_nil ?_
           refine then_n ?_
           refine cw_if fr rfl h (fun h => ?_) (fun h => ?_)
           ·refine wp_skip ?_
            refine then_n ?_
            refine cw_if fr rfl h (fun h => ?_) (fun h => ?_)
            ·refine cw_cut (fun a w => ∃ g185 : Nat, ∃ D186 : Dk, ∃ g187 : Nat, ∃ D188 : Dk, Fr 237 a [(1, (.slice A1 (List.length l1) c1)), (5, (.int .i64 y1)), (6, (.pointer (some ⟨g187, 0, none⟩))), (8, (.pointer (some ⟨g185, 0, none⟩))), (14, (.pointer (some ⟨g19, 0, none⟩))), (15, (.int .i64 x29)), (16, (.pointer (some ⟨g44, 0, none⟩))), (17, (.slice A45 (List.length y41.2.1) c46))] ∧ Sat w0 w [ddsA g185 D186, diskA g187 D188, twbA A45 c46 y41.2.1, stA 73 g44 [(.int .u8 y41.1), (.slice A42 (List.length y41.2.1) c43), (.int .i64 y41.2.2.1), (.int .u64 y41.2.2.2.1)], bookA g19 x20] ∧ (WallsPlay.j10 (WallsPlay.l1 k1 l1 y1) y41 x20 x29 D186 D188) = some r) ?_ ?_
             ·refine wp_seq ?_
              refine wp_region_lit ?_
              refine wl_run orc_ok 1 rfl fr fun a fr => ?_
              refine wl_ldf orc_ok (Sat.stAt S 1 rfl rfl) fr rfl rfl rfl rfl rfl rfl rfl fun a fr => ?_
              refine wl_run orc_ok 2 rfl fr fun a fr => ?_
              refine wpList_nil ?_
              refine then_n ?_
              refine cw_if fr rfl h (fun h => ?_) (fun h => ?_)
              ·refine wp_seq ?_
               refine wp_region_lit ?_
               refine wl_run orc_ok 2 rfl fr fun a fr => ?_
               refine wl_ldf orc_ok (Sat.stAt S 1 rfl rfl) fr rfl rfl rfl rfl rfl rfl rfl fun a fr => ?_
               refine wl_run orc_ok 1 rfl fr fun a fr => ?_
               refine wl_ldf orc_ok (Sat.stAt S 1 rfl rfl) fr rfl rfl rfl rfl rfl rfl rfl fun a fr => ?_
               refine wl_run orc_ok 1 rfl fr fun a fr => ?_
               have S := S.frontAt 6 rfl
               obtain ⟨hc, h⟩ := ifs h
               refine wl_call fr rfl rfl rfl rfl en20 (disk_fail S (fr.int (d := 127) rfl) (fr.int (d := 130) rfl) hc) ?_
               rintro _ w ⟨g207, rfl, S⟩
               refine ⟨_, rfl, rfl, fun a fr => ?_⟩
               obtain ⟨D208, hx, h⟩ := lt_h h
               rw [hx] at S
               refine wl_run orc_ok 5 rfl fr fun a fr => ?_
               refine wpList_nil ?_
               refine then_n ?_
               refine wp_seq ?_
               refine wp_region_lit ?_
               refine wl_run orc_ok 2 rfl fr fun a fr => ?_
               refine wl_ldf orc_ok (Sat.stAt S 3 rfl rfl) fr rfl rfl rfl rfl rfl rfl rfl fun a fr => ?_
               refine wl_run orc_ok 1 rfl fr fun a fr => ?_
               refine wl_ldf orc_ok (Sat.stAt S 3 rfl rfl) fr rfl rfl rfl rfl rfl rfl rfl fun a fr => ?_
               refine wl_run orc_ok 1 rfl fr fun a fr => ?_
               have S := S.frontAt 6 rfl
               obtain ⟨hc, h⟩ := ifs h
               obtain ⟨D209, hn0, h⟩ := lt_h h
               have H := ds_fail (fr.int (d := 137) rfl) (fr.int (d := 140) rfl) hc.1 hc.2 S
               rw [hn0] at H
               refine wl_call fr rfl rfl rfl rfl en21 H ?_
               clear H
               rintro _ w ⟨g210, rfl, S⟩
               refine ⟨_, rfl, rfl, fun a fr => ?_⟩
               refine wl_run orc_ok 5 rfl fr fun a fr => ?_
               refine wpList_nil ?_
               refine then_n ?_
               refine wp_seq ?_
               refine wp_seq ?_
               refine wp_region_lit ?_
               refine wl_run orc_ok 6 rfl fr fun a fr => ?_
               refine wpList_nil ?_
               refine then_n ?_
               refine cw_f fr rfl ?_
               refine wp_skip ?_
               refine then_n ?_
               refine wp_seq ?_
               refine wp_region_lit ?_
               refine wl_run orc_ok 1 rfl fr fun a fr => ?_
               have S : Sat w0 _ [ddsA g210 D209, ddsA g23 D24, diskA g207 D208, twbA A45 c46 y41.2.1, stA 73 g44 [(.int .u8 y41.1), (.slice A42 (List.length y41.2.1) c43), (.int .i64 y41.2.2.1), (.int .u64 y41.2.2.2.1)], bookA g19 x20, rlgA g21 g23 x22] := S.mask [true, true, true, false, true, true, true, true, false]
               refine wl_run orc_ok 1 rfl fr fun a fr => ?_
               refine wpList_nil ?_
               refine then_n ?_
               refine wp_region_lit ?_
               refine wl_run orc_ok 1 rfl fr fun a fr => ?_
               have S : Sat w0 _ [ddsA g210 D209, diskA g207 D208, twbA A45 c46 y41.2.1, stA 73 g44 [(.int .u8 y41.1), (.slice A42 (List.length y41.2.1) c43), (.int .i64 y41.2.2.1), (.int .u64 y41.2.2.2.1)], bookA g19 x20] := S.mask [true, false, true, true, true, true, false]
               refine wl_run orc_ok 1 rfl fr fun a fr => ?_
               refine wpList_nil ?_
               exact ⟨g210, D209, g207, D208, fr.sub ⟨rfl, rfl, rfl, rfl, rfl, rfl, rfl, rfl, trivial⟩, S, h⟩
              ·refine wp_skip ?_
               have S : Sat w0 _ [twbA A45 c46 y41.2.1, stA 73 g44 [(.int .u8 y41.1), (.slice A42 (List.length y41.2.1) c43), (.int .i64 y41.2.2.1), (.int .u64 y41.2.2.2.1)], bookA g19 x20, ddsA g23 D24, diskA g27 D28] := S.mask [true, true, true, false, true, false, true]
               have S := S.frontAt 2 rfl
               have S := S.frontAt 2 rfl
               have S := S.frontAt 2 rfl
               have S := S.frontAt 4 rfl
               have S := S.frontAt 4 rfl
               exact ⟨g23, D24, g27, D28, fr.sub ⟨rfl, rfl, rfl, rfl, rfl, rfl, rfl, rfl, trivial⟩, S, h⟩
             ·rintro a w ⟨g185, D186, g187, D188, fr, S, h⟩
              rw [WallsPlay.j10] at h
              refine cw_cut (fun a w => ∃ D189 : Dk, ∃ D190 : Dk, Fr 237 a [(1, (.slice A1 (List.length l1) c1)), (5, (.int .i64 y1)), (6, (.pointer (some ⟨g187, 0, none⟩))), (8, (.pointer (some ⟨g185, 0, none⟩))), (14, (.pointer (some ⟨g19, 0, none⟩))), (15, (.int .i64 x29)), (16, (.pointer (some ⟨g44, 0, none⟩))), (17, (.slice A45 (List.length y41.2.1) c46))] ∧ Sat w0 w [ddsA g185 D189, diskA g187 D190, twbA A45 c46 y41.2.1, stA 73 g44 [(.int .u8 y41.1), (.slice A42 (List.length y41.2.1) c43), (.int .i64 y41.2.2.1), (.int .u64 y41.2.2.2.1)], bookA g19 x20] ∧ (WallsPlay.j11 (WallsPlay.l1 k1 l1 y1) x20 y41 x29 D189 D190) = some r) ?_ ?_
              ·refine wp_seq ?_
               refine wp_region_sl [.one (0, true, some 152), .one (1, true, some 153), .one (2, true, some 154), .one (3, true, some 155), .one (4, true, some 156), .one (5, true, some 157), .one (6, true, some 158), .one (7, true, some 159), .one (8, true, some 160), .one (10, true, some 162), .one (11, true, some 163), .one (12, true, some 164), .one (13, true, some 165), .one (14, true, some 166), .one (9, false, some 161), .one (15, false, some 167), .one (16, true, some 168), .one (17, true, some 169)]
                [.one ⟨true, some 152, (Go.Op.fieldAddr 73 (Go.Operand.tmp 16) 0), 0, none⟩,
  .one ⟨true, some 153, (Go.Op.load 5 (Go.Operand.tmp 152)), 5, none⟩,
  .one ⟨true, some 154, (Go.Op.binOp Go.BinOp.rem 5 (Go.Operand.tmp 153) (Go.Operand.const (Go.Value.int Go.IntKind.u8 7)) 5), 5, none⟩,
  .one ⟨true, some 155, (Go.Op.binOp Go.BinOp.eql 5 (Go.Operand.tmp 154) (Go.Operand.const (Go.Value.int Go.IntKind.u8 5)) 5), 4, none⟩,
  .one ⟨true, some 156, (Go.Op.move (Go.Operand.tmp 155)), 4, none⟩,
  .one ⟨true, some 157, (Go.Op.move (Go.Operand.tmp 6)), 24, some (156, true)⟩,
  .one ⟨true, some 158, (Go.Op.fieldAddr 73 (Go.Operand.tmp 16) 2), 0, some (156, true)⟩,
  .one ⟨true, some 159, (Go.Op.load 3 (Go.Operand.tmp 158)), 3, some (156, true)⟩,
  .one ⟨true, some 160, (Go.Op.move (Go.Operand.tmp 17)), 45, some (156, true)⟩,
  .one ⟨true, some 162, (Go.Op.move (Go.Operand.tmp 8)), 28, some (156, true)⟩,
  .one ⟨true, some 163, (Go.Op.fieldAddr 73 (Go.Operand.tmp 16) 2), 0, some (156, true)⟩,
  .one ⟨true, some 164, (Go.Op.load 3 (Go.Operand.tmp 163)), 3, some (156, true)⟩,
  .one ⟨true, some 165, (Go.Op.fieldAddr 73 (Go.Operand.tmp 16) 1), 0, some (156, true)⟩,
  .one ⟨true, some 166, (Go.Op.load 45 (Go.Operand.tmp 165)), 45, some (156, true)⟩,
  .one ⟨false, some 161, (Go.Op.call { callee := (Go.Callee.value (Go.Operand.func 12)), args := #[(Go.Operand.tmp 157), (Go.Operand.tmp 159), (Go.Operand.tmp 160)], argTypes := #[24, 3, 45] }), 25, some (156, true)⟩,
  .one ⟨false, some 167, (Go.Op.call { callee := (Go.Callee.value (Go.Operand.func 13)), args := #[(Go.Operand.tmp 162), (Go.Operand.tmp 164), (Go.Operand.tmp 166)], argTypes := #[28, 3, 45] }), 25, some (156, true)⟩,
  .one ⟨true, some 168, (Go.Op.binOp Go.BinOp.neq 25 (Go.Operand.tmp 161) (Go.Operand.tmp 167) 25), 4, some (156, true)⟩,
  .one ⟨true, some 169, (Go.Op.pick (Go.Operand.tmp 156) (Go.Operand.tmp 168) (Go.Operand.const (Go.Value.bool false))), 4, none⟩]
                (fun w => Sat w0 w [stA 73 g44 [(.int .u8 y41.1), (.slice A42 (List.length y41.2.1) c43), (.int .i64 y41.2.2.1), (.int .u64 y41.2.2.2.1)], bookA g19 x20]) rfl (by kernel_rfl) (by kernel_rfl) (S.drew.mask [false, false, false, true, true]) ?_
               have S := S.drew
               refine sl_run orc_ok 1 rfl fr fun a fr => ?_
               refine sl_ldf orc_ok (fun _ S => Sat.stAt S 0 rfl rfl) fr rfl rfl rfl rfl rfl rfl rfl rfl (Sat.mask S [false, false, false, true, true]) fun a fr => ?_
               refine sl_run orc_ok 3 rfl fr fun a fr => ?_
               refine sl_split 156 fr rfl h (fun fr h => ?_) (fun fr h => ?_)
               ·refine sl_run orc_ok 2 rfl fr fun a fr => ?_
                refine sl_ldf orc_ok (fun _ S => Sat.stAt S 0 rfl rfl) fr rfl rfl rfl rfl rfl rfl rfl rfl (Sat.mask S [false, false, false, true, true]) fun a fr => ?_
                refine sl_run orc_ok 3 rfl fr fun a fr => ?_
                refine sl_ldf orc_ok (fun _ S => Sat.stAt S 0 rfl rfl) fr rfl rfl rfl rfl rfl rfl rfl rfl (Sat.mask S [false, false, false, true, true]) fun a fr => ?_
                refine sl_run orc_ok 1 rfl fr fun a fr => ?_
                refine sl_ldf orc_ok (fun _ S => Sat.stAt S 0 rfl rfl) fr rfl rfl rfl rfl rfl rfl rfl rfl (Sat.mask S [false, false, false, true, true]) fun a fr => ?_
                have S := S.frontAt 1 rfl
                obtain ⟨hc, h⟩ := ifs h
                refine sl_call fr rfl rfl rfl rfl rfl en12 (disk_write S y41.2.2.1 (Sat.twbAt S 2 rfl) hc) ?_
                rintro _ w ⟨rfl, hv, S⟩
                refine ⟨_, rfl, hv, (Sat.mask S [false, false, false, true, true]), fun a fr => ?_⟩
                obtain ⟨D204, hx, h⟩ := lt_h h
                rw [hx] at S
                have S := S.frontAt 1 rfl
                obtain ⟨hc, h⟩ := ifs h
                obtain ⟨y205, hn0, h⟩ := lt_h h
                obtain ⟨D206, hn1, h⟩ := lt_h h
                have H := ds_write (A := A42) (c := c43) (l := y41.2.1) (fr.int (d := 164) rfl) (fr.slice (d := 166) rfl) (fun _ S => Rk.at rq40_1 S) hc S
                rw [hn0, hn1] at H
                refine sl_call fr rfl rfl rfl rfl rfl en13 H ?_
                clear H
                rintro _ w ⟨rfl, hv, S⟩
                refine ⟨_, rfl, hv, (Sat.mask S [false, false, false, true, true]), fun a fr => ?_⟩
                refine sl_run orc_ok 2 rfl fr fun a fr => ?_
                refine sl_end ?_
                refine then_n ?_
                refine cw_if fr rfl h (fun h => ?_) (fun h => ?_)
                ·cases h
                ·refine wp_skip ?_
                 exact ⟨D206, D204, fr.sub ⟨rfl, rfl, rfl, rfl, rfl, rfl, rfl, rfl, trivial⟩, S, h⟩
               ·refine sl_run orc_ok 9 rfl fr fun a fr => ?_
                refine sl_no fr rfl (Sat.mask S [false, false, false, true, true]) rfl rfl fun a fr => ?_
                refine sl_no fr rfl (Sat.mask S [false, false, false, true, true]) rfl rfl fun a fr => ?_
                refine sl_run orc_ok 2 rfl fr fun a fr => ?_
                refine sl_end ?_
                refine then_n ?_
                refine cw_f fr rfl ?_
                refine wp_skip ?_
                exact ⟨D186, D188, fr.sub ⟨rfl, rfl, rfl, rfl, rfl, rfl, rfl, rfl, trivial⟩, S, h⟩
              ·rintro a w ⟨D189, D190, fr, S, h⟩
               rw [WallsPlay.j11] at h
               refine wp_seq ?_
               refine wp_region_lit ?_
               refine wl_run orc_ok 1 rfl fr fun a fr => ?_
               have S := S.frontAt 1 rfl
               obtain ⟨hc, h⟩ := ifs h
               obtain ⟨p191, hn0, h⟩ := lt_h h
               obtain ⟨x192, hn1, h⟩ := lt_h h
               obtain ⟨D193, hn2, h⟩ := lt_h h
               have H := open_call S hc
               rw [hn0, hn1, hn2] at H
               refine wl_call fr rfl rfl rfl rfl en28 H ?_
               clear H
               rintro _ w ⟨g196, A194, c195, rfl, hv, S⟩
               refine ⟨_, rfl, hv, fun a fr => ?_⟩
               refine wl_run orc_ok 7 rfl fr fun a fr => ?_
               refine wpList_nil ?_
               refine then_n ?_
               refine wp_seq ?_
               refine wp_region_lit ?_
               refine wl_run orc_ok 1 rfl fr fun a fr => ?_
               have S := S.frontAt 3 rfl
               obtain ⟨hc, h⟩ := ifs h
               obtain ⟨p197, hn0, h⟩ := lt_h h
               obtain ⟨x198, hn1, h⟩ := lt_h h
               obtain ⟨D199, hn2, h⟩ := lt_h h
               have H := r6_open hc.1 hc.2 S
               rw [hn0, hn1, hn2] at H
               refine wl_call fr rfl rfl rfl rfl en29 H ?_
               clear H
               rintro _ w ⟨g202, A200, c201, rfl, hv, S⟩
               refine ⟨_, rfl, hv, fun a fr => ?_⟩
               refine wl_run orc_ok 5 rfl fr fun a fr => ?_
               refine wpList_nil ?_
               refine then_n ?_
               refine wp_seq ?_
               refine wp_seq ?_
               refine wp_region_lit ?_
               refine wl_run orc_ok 5 rfl fr fun a fr => ?_
               obtain ⟨hc, h⟩ := ifs h
               obtain ⟨y203, hn0, h⟩ := lt_h h
               have H := samerecs_call (A := A194) (ca := c195) (a := p191) (B := A200) (cb := c201) (b := p197) (Sat.recAt S 4 rfl).1 (Sat.recAt S 1 rfl).1 (fr.slice (d := 184) rfl) (fr.slice (d := 185) rfl) hc S
               rw [hn0] at H
               refine wl_call fr rfl rfl rfl rfl en34 H ?_
               clear H
               rintro _ w ⟨rfl, S⟩
               refine ⟨_, rfl, rfl, fun a fr => ?_⟩
               refine wl_run orc_ok 2 rfl fr fun a fr => ?_
               refine wpList_nil ?_
               refine then_n ?_
               refine cw_if fr rfl h (fun h => ?_) (fun h => ?_)
               ·cases h
               ·refine wp_skip ?_
                refine then_n ?_
                refine wp_seq ?_
                refine wp_region_lit ?_
                refine wl_run orc_ok 1 rfl fr fun a fr => ?_
                have S := S.frontAt 8 rfl
                have S := S.frontAt 5 rfl
                obtain ⟨hc, h⟩ := ifs h
                refine wl_call fr rfl rfl rfl rfl en35 (book_records hc S) ?_
                rintro _ w ⟨rfl, S⟩
                refine ⟨_, rfl, rfl, fun a fr => ?_⟩
                refine wpList_nil ?_
                refine then_n ?_
                refine wp_seq ?_
                refine wp_region_lit ?_
                refine wl_run orc_ok 1 rfl fr fun a fr => ?_
                refine wl_run orc_ok 1 rfl fr fun a fr => ?_
                refine wpList_nil ?_
                refine then_n ?_
                refine wp_region_lit ?_
                refine wl_run orc_ok 1 rfl fr fun a fr => ?_
                refine wl_run orc_ok 1 rfl fr fun a fr => ?_
                refine wpList_nil ?_
                refine blk_n ?_
                have S : Sat w0 _ [bookA g19 (x20 + (List.length p191 : Nat)), rlgA g202 g185 x198, ddsA g185 D199, logA g196 g187 x192, diskA g187 D193, twbA A45 c46 y41.2.1, stA 73 g44 [(.int .u8 y41.1), (.slice A42 (List.length y41.2.1) c43), (.int .i64 y41.2.2.1), (.int .u64 y41.2.2.2.1)]] := S.mask [true, true, false, true, true, true, true, true]
                have S := S.frontAt 6 rfl
                have S := S.frontAt 6 rfl
                have S := S.frontAt 6 rfl
                have S := S.frontAt 6 rfl
                have S := S.frontAt 6 rfl
                have S := S.frontAt 6 rfl
                exact ⟨g202, x198, g185, D199, g196, x192, g187, D193, (x20 + (List.length p191 : Nat)), fr.sub ⟨rfl, rfl, rfl, rfl, rfl, rfl, rfl, rfl, rfl, rfl, trivial⟩, S, h⟩
            ·refine wp_seq ?_
             refine wp_region_sl [.one (0, true, some 89), .one (1, true, some 90), .one (2, true, some 91), .one (4, true, some 93), .one (5, true, some 94), .one (6, true, some 95), .one (3, false, some 92), .one (7, false, some 96), .one (8, true, some 97)]
              [.one ⟨true, some 89, (Go.Op.move (Go.Operand.tmp 10)), 65, none⟩,
  .one ⟨true, some 90, (Go.Op.fieldAddr 73 (Go.Operand.tmp 16) 2), 0, none⟩,
  .one ⟨true, some 91, (Go.Op.load 3 (Go.Operand.tmp 90)), 3, none⟩,
  .one ⟨true, some 93, (Go.Op.move (Go.Operand.tmp 12)), 69, none⟩,
  .one ⟨true, some 94, (Go.Op.fieldAddr 73 (Go.Operand.tmp 16) 2), 0, none⟩,
  .one ⟨true, some 95, (Go.Op.load 3 (Go.Operand.tmp 94)), 3, none⟩,
  .one ⟨false, some 92, (Go.Op.call { callee := (Go.Callee.value (Go.Operand.func 36)), args := #[(Go.Operand.tmp 89), (Go.Operand.tmp 91)], argTypes := #[65, 3] }), 4, none⟩,
  .one ⟨false, some 96, (Go.Op.call { callee := (Go.Callee.value (Go.Operand.func 37)), args := #[(Go.Operand.tmp 93), (Go.Operand.tmp 95)], argTypes := #[69, 3] }), 4, none⟩,
  .one ⟨true, some 97, (Go.Op.binOp Go.BinOp.neq 4 (Go.Operand.tmp 92) (Go.Operand.tmp 96) 4), 4, none⟩]
              (fun w => Sat w0 w [twbA A45 c46 y41.2.1, stA 73 g44 [(.int .u8 y41.1), (.slice A42 (List.length y41.2.1) c43), (.int .i64 y41.2.2.1), (.int .u64 y41.2.2.2.1)], bookA g19 x20]) rfl (by kernel_rfl) (by kernel_rfl) (S.drew.mask [true, true, true, false, false, false, false]) ?_
             have S := S.drew
             refine sl_run orc_ok 2 rfl fr fun a fr => ?_
             refine sl_ldf orc_ok (fun _ S => Sat.stAt S 1 rfl rfl) fr rfl rfl rfl rfl rfl rfl rfl rfl (Sat.mask S [true, true, true, false, false, false, false]) fun a fr => ?_
             refine sl_run orc_ok 2 rfl fr fun a fr => ?_
             refine sl_ldf orc_ok (fun _ S => Sat.stAt S 1 rfl rfl) fr rfl rfl rfl rfl rfl rfl rfl rfl (Sat.mask S [true, true, true, false, false, false, false]) fun a fr => ?_
             have S := S.frontAt 6 rfl
             have S := S.frontAt 6 rfl
             obtain ⟨hc, h⟩ := ifs h
             obtain ⟨y211, hn0, h⟩ := lt_h h
             have H := room_call S hc (fr.int (d := 91) rfl)
             rw [hn0] at H
             refine sl_call fr rfl rfl rfl rfl rfl en36 H ?_
             clear H
             rintro _ w ⟨rfl, S⟩
             refine ⟨_, rfl, rfl, (Sat.mask S [false, false, true, true, true, false, false]), fun a fr => ?_⟩
             have S := S.frontAt 6 rfl
             have S := S.frontAt 6 rfl
             obtain ⟨hc, h⟩ := ifs h
             obtain ⟨y212, hn0, h⟩ := lt_h h
             have H := r6_room (fr.int (d := 95) rfl) hc S
             rw [hn0] at H
             refine sl_call fr rfl rfl rfl rfl rfl en37 H ?_
             clear H
             rintro _ w ⟨rfl, S⟩
             refine ⟨_, rfl, rfl, (Sat.mask S [false, false, false, false, true, true, true]), fun a fr => ?_⟩
             refine sl_run orc_ok 1 rfl fr fun a fr => ?_
             refine sl_end ?_
             refine then_n ?_
             refine cw_if fr rfl h (fun h => ?_) (fun h => ?_)
             ·cases h
             ·refine wp_skip ?_
              refine blk_n ?_
              exact ⟨g21, x22, g23, D24, g25, x26, g27, D28, x20, fr.sub ⟨rfl, rfl, rfl, rfl, rfl, rfl, rfl, rfl, rfl, rfl, trivial⟩, S, h⟩
           ·refine wp_region_lit ?_
            refine wl_run orc_ok 2 rfl fr fun a fr => ?_
            refine wpList_nil ?_
            refine then_n ?_
            refine cw_if fr rfl h (fun h => ?_) (fun h => ?_)
            ·refine cw_cut (fun a w => ∃ g213 : Nat, ∃ D214 : Dk, ∃ g215 : Nat, ∃ D216 : Dk, Fr 237 a [(1, (.slice A1 (List.length l1) c1)), (5, (.int .i64 y1)), (6, (.pointer (some ⟨g215, 0, none⟩))), (8, (.pointer (some ⟨g213, 0, none⟩))), (14, (.pointer (some ⟨g19, 0, none⟩))), (15, (.int .i64 x29)), (16, (.pointer (some ⟨g44, 0, none⟩))), (17, (.slice A45 (List.length y41.2.1) c46))] ∧ Sat w0 w [ddsA g213 D214, diskA g215 D216, twbA A45 c46 y41.2.1, stA 73 g44 [(.int .u8 y41.1), (.slice A42 (List.length y41.2.1) c43), (.int .i64 y41.2.2.1), (.int .u64 y41.2.2.2.1)], bookA g19 x20] ∧ (WallsPlay.j12 (WallsPlay.l1 k1 l1 y1) y41 x20 x29 D214 D216) = some r) ?_ ?_
             ·refine wp_seq ?_
              refine wp_region_lit ?_
              refine wl_run orc_ok 1 rfl fr fun a fr => ?_
              refine wl_ldf orc_ok (Sat.stAt S 1 rfl rfl) fr rfl rfl rfl rfl rfl rfl rfl fun a fr => ?_
              refine wl_run orc_ok 2 rfl fr fun a fr => ?_
              refine wpList_nil ?_
              refine then_n ?_
              refine cw_if fr rfl h (fun h => ?_) (fun h => ?_)
              ·refine wp_seq ?_
               refine wp_region_lit ?_
               refine wl_run orc_ok 2 rfl fr fun a fr => ?_
               refine wl_ldf orc_ok (Sat.stAt S 1 rfl rfl) fr rfl rfl rfl rfl rfl rfl rfl fun a fr => ?_
               refine wl_run orc_ok 1 rfl fr fun a fr => ?_
               refine wl_ldf orc_ok (Sat.stAt S 1 rfl rfl) fr rfl rfl rfl rfl rfl rfl rfl fun a fr => ?_
               refine wl_run orc_ok 1 rfl fr fun a fr => ?_
               have S := S.frontAt 6 rfl
               obtain ⟨hc, h⟩ := ifs h
               refine wl_call fr rfl rfl rfl rfl en20 (disk_fail S (fr.int (d := 127) rfl) (fr.int (d := 130) rfl) hc) ?_
               rintro _ w ⟨g235, rfl, S⟩
               refine ⟨_, rfl, rfl, fun a fr => ?_⟩
               obtain ⟨D236, hx, h⟩ := lt_h h
               rw [hx] at S
               refine wl_run orc_ok 5 rfl fr fun a fr => ?_
               refine wpList_nil ?_
               refine then_n ?_
               refine wp_seq ?_
               refine wp_region_lit ?_
               refine wl_run orc_ok 2 rfl fr fun a fr => ?_
               refine wl_ldf orc_ok (Sat.stAt S 3 rfl rfl) fr rfl rfl rfl rfl rfl rfl rfl fun a fr => ?_
               refine wl_run orc_ok 1 rfl fr fun a fr => ?_
               refine wl_ldf orc_ok (Sat.stAt S 3 rfl rfl) fr rfl rfl rfl rfl rfl rfl rfl fun a fr => ?_
               refine wl_run orc_ok 1 rfl fr fun a fr => ?_
               have S := S.frontAt 6 rfl
               obtain ⟨hc, h⟩ := ifs h
               obtain ⟨D237, hn0, h⟩ := lt_h h
               have H := ds_fail (fr.int (d := 137) rfl) (fr.int (d := 140) rfl) hc.1 hc.2 S
               rw [hn0] at H
               refine wl_call fr rfl rfl rfl rfl en21 H ?_
               clear H
               rintro _ w ⟨g238, rfl, S⟩
               refine ⟨_, rfl, rfl, fun a fr => ?_⟩
               refine wl_run orc_ok 5 rfl fr fun a fr => ?_
               refine wpList_nil ?_
               refine then_n ?_
               refine wp_seq ?_
               refine wp_seq ?_
               refine wp_region_lit ?_
               refine wl_run orc_ok 6 rfl fr fun a fr => ?_
               refine wpList_nil ?_
               refine then_n ?_
               refine cw_f fr rfl ?_
               refine wp_skip ?_
               refine then_n ?_
               refine wp_seq ?_
               refine wp_region_lit ?_
               refine wl_run orc_ok 1 rfl fr fun a fr => ?_
               have S : Sat w0 _ [ddsA g238 D237, ddsA g23 D24, diskA g235 D236, twbA A45 c46 y41.2.1, stA 73 g44 [(.int .u8 y41.1), (.slice A42 (List.length y41.2.1) c43), (.int .i64 y41.2.2.1), (.int .u64 y41.2.2.2.1)], bookA g19 x20, rlgA g21 g23 x22] := S.mask [true, true, true, false, true, true, true, true, false]
               refine wl_run orc_ok 1 rfl fr fun a fr => ?_
               refine wpList_nil ?_
               refine then_n ?_
               refine wp_region_lit ?_
               refine wl_run orc_ok 1 rfl fr fun a fr => ?_
               have S : Sat w0 _ [ddsA g238 D237, diskA g235 D236, twbA A45 c46 y41.2.1, stA 73 g44 [(.int .u8 y41.1), (.slice A42 (List.length y41.2.1) c43), (.int .i64 y41.2.2.1), (.int .u64 y41.2.2.2.1)], bookA g19 x20] := S.mask [true, false, true, true, true, true, false]
               refine wl_run orc_ok 1 rfl fr fun a fr => ?_
               refine wpList_nil ?_
               exact ⟨g238, D237, g235, D236, fr.sub ⟨rfl, rfl, rfl, rfl, rfl, rfl, rfl, rfl, trivial⟩, S, h⟩
              ·refine wp_skip ?_
               have S : Sat w0 _ [twbA A45 c46 y41.2.1, stA 73 g44 [(.int .u8 y41.1), (.slice A42 (List.length y41.2.1) c43), (.int .i64 y41.2.2.1), (.int .u64 y41.2.2.2.1)], bookA g19 x20, ddsA g23 D24, diskA g27 D28] := S.mask [true, true, true, false, true, false, true]
               have S := S.frontAt 2 rfl
               have S := S.frontAt 2 rfl
               have S := S.frontAt 2 rfl
               have S := S.frontAt 4 rfl
               have S := S.frontAt 4 rfl
               exact ⟨g23, D24, g27, D28, fr.sub ⟨rfl, rfl, rfl, rfl, rfl, rfl, rfl, rfl, trivial⟩, S, h⟩
             ·rintro a w ⟨g213, D214, g215, D216, fr, S, h⟩
              rw [WallsPlay.j12] at h
              refine cw_cut (fun a w => ∃ D217 : Dk, ∃ D218 : Dk, Fr 237 a [(1, (.slice A1 (List.length l1) c1)), (5, (.int .i64 y1)), (6, (.pointer (some ⟨g215, 0, none⟩))), (8, (.pointer (some ⟨g213, 0, none⟩))), (14, (.pointer (some ⟨g19, 0, none⟩))), (15, (.int .i64 x29)), (16, (.pointer (some ⟨g44, 0, none⟩))), (17, (.slice A45 (List.length y41.2.1) c46))] ∧ Sat w0 w [ddsA g213 D217, diskA g215 D218, twbA A45 c46 y41.2.1, stA 73 g44 [(.int .u8 y41.1), (.slice A42 (List.length y41.2.1) c43), (.int .i64 y41.2.2.1), (.int .u64 y41.2.2.2.1)], bookA g19 x20] ∧ (WallsPlay.j13 (WallsPlay.l1 k1 l1 y1) x20 y41 x29 D217 D218) = some r) ?_ ?_
              ·refine wp_seq ?_
               refine wp_region_sl [.one (0, true, some 152), .one (1, true, some 153), .one (2, true, some 154), .one (3, true, some 155), .one (4, true, some 156), .one (5, true, some 157), .one (6, true, some 158), .one (7, true, some 159), .one (8, true, some 160), .one (10, true, some 162), .one (11, true, some 163), .one (12, true, some 164), .one (13, true, some 165), .one (14, true, some 166), .one (9, false, some 161), .one (15, false, some 167), .one (16, true, some 168), .one (17, true, some 169)]
                [.one ⟨true, some 152, (Go.Op.fieldAddr 73 (Go.Operand.tmp 16) 0), 0, none⟩,
  .one ⟨true, some 153, (Go.Op.load 5 (Go.Operand.tmp 152)), 5, none⟩,
  .one ⟨true, some 154, (Go.Op.binOp Go.BinOp.rem 5 (Go.Operand.tmp 153) (Go.Operand.const (Go.Value.int Go.IntKind.u8 7)) 5), 5, none⟩,
  .one ⟨true, some 155, (Go.Op.binOp Go.BinOp.eql 5 (Go.Operand.tmp 154) (Go.Operand.const (Go.Value.int Go.IntKind.u8 5)) 5), 4, none⟩,
  .one ⟨true, some 156, (Go.Op.move (Go.Operand.tmp 155)), 4, none⟩,
  .one ⟨true, some 157, (Go.Op.move (Go.Operand.tmp 6)), 24, some (156, true)⟩,
  .one ⟨true, some 158, (Go.Op.fieldAddr 73 (Go.Operand.tmp 16) 2), 0, some (156, true)⟩,
  .one ⟨true, some 159, (Go.Op.load 3 (Go.Operand.tmp 158)), 3, some (156, true)⟩,
  .one ⟨true, some 160, (Go.Op.move (Go.Operand.tmp 17)), 45, some (156, true)⟩,
  .one ⟨true, some 162, (Go.Op.move (Go.Operand.tmp 8)), 28, some (156, true)⟩,
  .one ⟨true, some 163, (Go.Op.fieldAddr 73 (Go.Operand.tmp 16) 2), 0, some (156, true)⟩,
  .one ⟨true, some 164, (Go.Op.load 3 (Go.Operand.tmp 163)), 3, some (156, true)⟩,
  .one ⟨true, some 165, (Go.Op.fieldAddr 73 (Go.Operand.tmp 16) 1), 0, some (156, true)⟩,
  .one ⟨true, some 166, (Go.Op.load 45 (Go.Operand.tmp 165)), 45, some (156, true)⟩,
  .one ⟨false, some 161, (Go.Op.call { callee := (Go.Callee.value (Go.Operand.func 12)), args := #[(Go.Operand.tmp 157), (Go.Operand.tmp 159), (Go.Operand.tmp 160)], argTypes := #[24, 3, 45] }), 25, some (156, true)⟩,
  .one ⟨false, some 167, (Go.Op.call { callee := (Go.Callee.value (Go.Operand.func 13)), args := #[(Go.Operand.tmp 162), (Go.Operand.tmp 164), (Go.Operand.tmp 166)], argTypes := #[28, 3, 45] }), 25, some (156, true)⟩,
  .one ⟨true, some 168, (Go.Op.binOp Go.BinOp.neq 25 (Go.Operand.tmp 161) (Go.Operand.tmp 167) 25), 4, some (156, true)⟩,
  .one ⟨true, some 169, (Go.Op.pick (Go.Operand.tmp 156) (Go.Operand.tmp 168) (Go.Operand.const (Go.Value.bool false))), 4, none⟩]
                (fun w => Sat w0 w [stA 73 g44 [(.int .u8 y41.1), (.slice A42 (List.length y41.2.1) c43), (.int .i64 y41.2.2.1), (.int .u64 y41.2.2.2.1)], bookA g19 x20]) rfl (by kernel_rfl) (by kernel_rfl) (S.drew.mask [false, false, false, true, true]) ?_
               have S := S.drew
               refine sl_run orc_ok 1 rfl fr fun a fr => ?_
               refine sl_ldf orc_ok (fun _ S => Sat.stAt S 0 rfl rfl) fr rfl rfl rfl rfl rfl rfl rfl rfl (Sat.mask S [false, false, false, true, true]) fun a fr => ?_
               refine sl_run orc_ok 3 rfl fr fun a fr => ?_
               refine sl_split 156 fr rfl h (fun fr h => ?_) (fun fr h => ?_)
               ·refine sl_run orc_ok 2 rfl fr fun a fr => ?_
                refine sl_ldf orc_ok (fun _ S => Sat.stAt S 0 rfl rfl) fr rfl rfl rfl rfl rfl rfl rfl rfl (Sat.mask S [false, false, false, true, true]) fun a fr => ?_
                refine sl_run orc_ok 3 rfl fr fun a fr => ?_
                refine sl_ldf orc_ok (fun _ S => Sat.stAt S 0 rfl rfl) fr rfl rfl rfl rfl rfl rfl rfl rfl (Sat.mask S [false, false, false, true, true]) fun a fr => ?_
                refine sl_run orc_ok 1 rfl fr fun a fr => ?_
                refine sl_ldf orc_ok (fun _ S => Sat.stAt S 0 rfl rfl) fr rfl rfl rfl rfl rfl rfl rfl rfl (Sat.mask S [false, false, false, true, true]) fun a fr => ?_
                have S := S.frontAt 1 rfl
                obtain ⟨hc, h⟩ := ifs h
                refine sl_call fr rfl rfl rfl rfl rfl en12 (disk_write S y41.2.2.1 (Sat.twbAt S 2 rfl) hc) ?_
                rintro _ w ⟨rfl, hv, S⟩
                refine ⟨_, rfl, hv, (Sat.mask S [false, false, false, true, true]), fun a fr => ?_⟩
                obtain ⟨D232, hx, h⟩ := lt_h h
                rw [hx] at S
                have S := S.frontAt 1 rfl
                obtain ⟨hc, h⟩ := ifs h
                obtain ⟨y233, hn0, h⟩ := lt_h h
                obtain ⟨D234, hn1, h⟩ := lt_h h
                have H := ds_write (A := A42) (c := c43) (l := y41.2.1) (fr.int (d := 164) rfl) (fr.slice (d := 166) rfl) (fun _ S => Rk.at rq40_1 S) hc S
                rw [hn0, hn1] at H
                refine sl_call fr rfl rfl rfl rfl rfl en13 H ?_
                clear H
                rintro _ w ⟨rfl, hv, S⟩
                refine ⟨_, rfl, hv, (Sat.mask S [false, false, false, true, true]), fun a fr => ?_⟩
                refine sl_run orc_ok 2 rfl fr fun a fr => ?_
                refine sl_end ?_
                refine then_n ?_
                refine cw_if fr rfl h (fun h => ?_) (fun h => ?_)
                ·cases h
                ·refine wp_skip ?_
                 exact ⟨D234, D232, fr.sub ⟨rfl, rfl, rfl, rfl, rfl, rfl, rfl, rfl, trivial⟩, S, h⟩
               ·refine sl_run orc_ok 9 rfl fr fun a fr => ?_
                refine sl_no fr rfl (Sat.mask S [false, false, false, true, true]) rfl rfl fun a fr => ?_
                refine sl_no fr rfl (Sat.mask S [false, false, false, true, true]) rfl rfl fun a fr => ?_
                refine sl_run orc_ok 2 rfl fr fun a fr => ?_
                refine sl_end ?_
                refine then_n ?_
                refine cw_f fr rfl ?_
                refine wp_skip ?_
                exact ⟨D214, D216, fr.sub ⟨rfl, rfl, rfl, rfl, rfl, rfl, rfl, rfl, trivial⟩, S, h⟩
              ·rintro a w ⟨D217, D218, fr, S, h⟩
               rw [WallsPlay.j13] at h
               refine wp_seq ?_
               refine wp_region_lit ?_
               refine wl_run orc_ok 1 rfl fr fun a fr => ?_
               have S := S.frontAt 1 rfl
               obtain ⟨hc, h⟩ := ifs h
               obtain ⟨p219, hn0, h⟩ := lt_h h
               obtain ⟨x220, hn1, h⟩ := lt_h h
               obtain ⟨D221, hn2, h⟩ := lt_h h
               have H := open_call S hc
               rw [hn0, hn1, hn2] at H
               refine wl_call fr rfl rfl rfl rfl en28 H ?_
               clear H
               rintro _ w ⟨g224, A222, c223, rfl, hv, S⟩
               refine ⟨_, rfl, hv, fun a fr => ?_⟩
               refine wl_run orc_ok 7 rfl fr fun a fr => ?_
               refine wpList_nil ?_
               refine then_n ?_
               refine wp_seq ?_
               refine wp_region_lit ?_
               refine wl_run orc_ok 1 rfl fr fun a fr => ?_
               have S := S.frontAt 3 rfl
               obtain ⟨hc, h⟩ := ifs h
               obtain ⟨p225, hn0, h⟩ := lt_h h
               obtain ⟨x226, hn1, h⟩ := lt_h h
               obtain ⟨D227, hn2, h⟩ := lt_h h
               have H := r6_open hc.1 hc.2 S
               rw [hn0, hn1, hn2] at H
               refine wl_call fr rfl rfl rfl rfl en29 H ?_
               clear H
               rintro _ w ⟨g230, A228, c229, rfl, hv, S⟩
               refine ⟨_, rfl, hv, fun a fr => ?_⟩
               refine wl_run orc_ok 5 rfl fr fun a fr => ?_
               refine wpList_nil ?_
               refine then_n ?_
               refine wp_seq ?_
               refine wp_seq ?_
               refine wp_region_lit ?_
               refine wl_run orc_ok 5 rfl fr fun a fr => ?_
               obtain ⟨hc, h⟩ := ifs h
               obtain ⟨y231, hn0, h⟩ := lt_h h
               have H := samerecs_call (A := A222) (ca := c223) (a := p219) (B := A228) (cb := c229) (b := p225) (Sat.recAt S 4 rfl).1 (Sat.recAt S 1 rfl).1 (fr.slice (d := 184) rfl) (fr.slice (d := 185) rfl) hc S
               rw [hn0] at H
               refine wl_call fr rfl rfl rfl rfl en34 H ?_
               clear H
               rintro _ w ⟨rfl, S⟩
               refine ⟨_, rfl, rfl, fun a fr => ?_⟩
               refine wl_run orc_ok 2 rfl fr fun a fr => ?_
               refine wpList_nil ?_
               refine then_n ?_
               refine cw_if fr rfl h (fun h => ?_) (fun h => ?_)
               ·cases h
               ·refine wp_skip ?_
                refine then_n ?_
                refine wp_seq ?_
                refine wp_region_lit ?_
                refine wl_run orc_ok 1 rfl fr fun a fr => ?_
                have S := S.frontAt 8 rfl
                have S := S.frontAt 5 rfl
                obtain ⟨hc, h⟩ := ifs h
                refine wl_call fr rfl rfl rfl rfl en35 (book_records hc S) ?_
                rintro _ w ⟨rfl, S⟩
                refine ⟨_, rfl, rfl, fun a fr => ?_⟩
                refine wpList_nil ?_
                refine then_n ?_
                refine wp_seq ?_
                refine wp_region_lit ?_
                refine wl_run orc_ok 1 rfl fr fun a fr => ?_
                refine wl_run orc_ok 1 rfl fr fun a fr => ?_
                refine wpList_nil ?_
                refine then_n ?_
                refine wp_region_lit ?_
                refine wl_run orc_ok 1 rfl fr fun a fr => ?_
                refine wl_run orc_ok 1 rfl fr fun a fr => ?_
                refine wpList_nil ?_
                refine blk_n ?_
                have S : Sat w0 _ [bookA g19 (x20 + (List.length p219 : Nat)), rlgA g230 g213 x226, ddsA g213 D227, logA g224 g215 x220, diskA g215 D221, twbA A45 c46 y41.2.1, stA 73 g44 [(.int .u8 y41.1), (.slice A42 (List.length y41.2.1) c43), (.int .i64 y41.2.2.1), (.int .u64 y41.2.2.2.1)]] := S.mask [true, true, false, true, true, true, true, true]
                have S := S.frontAt 6 rfl
                have S := S.frontAt 6 rfl
                have S := S.frontAt 6 rfl
                have S := S.frontAt 6 rfl
                have S := S.frontAt 6 rfl
                have S := S.frontAt 6 rfl
                exact ⟨g230, x226, g213, D227, g224, x220, g215, D221, (x20 + (List.length p219 : Nat)), fr.sub ⟨rfl, rfl, rfl, rfl, rfl, rfl, rfl, rfl, rfl, rfl, trivial⟩, S, h⟩
            ·refine wp_seq ?_
             refine wp_region_sl [.one (0, true, some 89), .one (1, true, some 90), .one (2, true, some 91), .one (4, true, some 93), .one (5, true, some 94), .one (6, true, some 95), .one (3, false, some 92), .one (7, false, some 96), .one (8, true, some 97)]
              [.one ⟨true, some 89, (Go.Op.move (Go.Operand.tmp 10)), 65, none⟩,
  .one ⟨true, some 90, (Go.Op.fieldAddr 73 (Go.Operand.tmp 16) 2), 0, none⟩,
  .one ⟨true, some 91, (Go.Op.load 3 (Go.Operand.tmp 90)), 3, none⟩,
  .one ⟨true, some 93, (Go.Op.move (Go.Operand.tmp 12)), 69, none⟩,
  .one ⟨true, some 94, (Go.Op.fieldAddr 73 (Go.Operand.tmp 16) 2), 0, none⟩,
  .one ⟨true, some 95, (Go.Op.load 3 (Go.Operand.tmp 94)), 3, none⟩,
  .one ⟨false, some 92, (Go.Op.call { callee := (Go.Callee.value (Go.Operand.func 36)), args := #[(Go.Operand.tmp 89), (Go.Operand.tmp 91)], argTypes := #[65, 3] }), 4, none⟩,
  .one ⟨false, some 96, (Go.Op.call { callee := (Go.Callee.value (Go.Operand.func 37)), args := #[(Go.Operand.tmp 93), (Go.Operand.tmp 95)], argTypes := #[69, 3] }), 4, none⟩,
  .one ⟨true, some 97, (Go.Op.binOp Go.BinOp.neq 4 (Go.Operand.tmp 92) (Go.Operand.tmp 96) 4), 4, none⟩]
              (fun w => Sat w0 w [twbA A45 c46 y41.2.1, stA 73 g44 [(.int .u8 y41.1), (.slice A42 (List.length y41.2.1) c43), (.int .i64 y41.2.2.1), (.int .u64 y41.2.2.2.1)], bookA g19 x20]) rfl (by kernel_rfl) (by kernel_rfl) (S.drew.mask [true, true, true, false, false, false, false]) ?_
             have S := S.drew
             refine sl_run orc_ok 2 rfl fr fun a fr => ?_
             refine sl_ldf orc_ok (fun _ S => Sat.stAt S 1 rfl rfl) fr rfl rfl rfl rfl rfl rfl rfl rfl (Sat.mask S [true, true, true, false, false, false, false]) fun a fr => ?_
             refine sl_run orc_ok 2 rfl fr fun a fr => ?_
             refine sl_ldf orc_ok (fun _ S => Sat.stAt S 1 rfl rfl) fr rfl rfl rfl rfl rfl rfl rfl rfl (Sat.mask S [true, true, true, false, false, false, false]) fun a fr => ?_
             have S := S.frontAt 6 rfl
             have S := S.frontAt 6 rfl
             obtain ⟨hc, h⟩ := ifs h
             obtain ⟨y239, hn0, h⟩ := lt_h h
             have H := room_call S hc (fr.int (d := 91) rfl)
             rw [hn0] at H
             refine sl_call fr rfl rfl rfl rfl rfl en36 H ?_
             clear H
             rintro _ w ⟨rfl, S⟩
             refine ⟨_, rfl, rfl, (Sat.mask S [false, false, true, true, true, false, false]), fun a fr => ?_⟩
             have S := S.frontAt 6 rfl
             have S := S.frontAt 6 rfl
             obtain ⟨hc, h⟩ := ifs h
             obtain ⟨y240, hn0, h⟩ := lt_h h
             have H := r6_room (fr.int (d := 95) rfl) hc S
             rw [hn0] at H
             refine sl_call fr rfl rfl rfl rfl rfl en37 H ?_
             clear H
             rintro _ w ⟨rfl, S⟩
             refine ⟨_, rfl, rfl, (Sat.mask S [false, false, false, false, true, true, true]), fun a fr => ?_⟩
             refine sl_run orc_ok 1 rfl fr fun a fr => ?_
             refine sl_end ?_
             refine then_n ?_
             refine cw_if fr rfl h (fun h => ?_) (fun h => ?_)
             ·cases h
             ·refine wp_skip ?_
              refine blk_n ?_
              exact ⟨g21, x22, g23, D24, g25, x26, g27, D28, x20, fr.sub ⟨rfl, rfl, rfl, rfl, rfl, rfl, rfl, rfl, rfl, rfl, trivial⟩, S, h⟩
      ·rintro a w ⟨g47, x48, g49, D50, g51, x52, g53, D54, x55, fr, S, h⟩
       rw [WallsPlay.j1] at h
       refine wp_seq ?_
       refine wp_seq ?_
       refine wp_region_lit ?_
       refine wl_run orc_ok 1 rfl fr fun a fr => ?_
       have S := S.frontAt 3 rfl
       refine wl_call fr rfl rfl rfl rfl en23 (disk_waits S) ?_
       rintro _ w ⟨rfl, hv, hw⟩
       subst hw
       refine ⟨_, rfl, hv, fun a fr => ?_⟩
       refine wl_run orc_ok 1 rfl fr fun a fr => ?_
       have S := S.frontAt 2 rfl
       obtain ⟨y56, hn0, h⟩ := lt_h h
       have H := ds_waits S
       rw [hn0] at H
       refine wl_call fr rfl rfl rfl rfl en24 H ?_
       clear H
       rintro _ w ⟨rfl, hv, S⟩
       refine ⟨_, rfl, hv, fun a fr => ?_⟩
       refine wl_run orc_ok 2 rfl fr fun a fr => ?_
       refine wl_split 198 fr rfl h (fun fr h => ?_) (fun fr h => ?_)
       ·cases h
       ·refine wl_run orc_ok 2 rfl fr fun a fr => ?_
        refine wl_ldf orc_ok (Sat.stAt S 5 rfl rfl) fr rfl rfl rfl rfl rfl rfl rfl fun a fr => ?_
        have S := S.frontAt 4 rfl
        obtain ⟨hc, h⟩ := ifs h
        refine wl_call fr rfl rfl rfl rfl en25 (leftb_call (Rk.at rq40_1 S) hc S) ?_
        rintro _ w ⟨rfl, S⟩
        refine ⟨_, rfl, rfl, fun a fr => ?_⟩
        refine wl_run orc_ok 2 rfl fr fun a fr => ?_
        refine wpList_nil ?_
        refine then_n ?_
        refine cw_f fr rfl ?_
        refine wp_skip ?_
        refine then_n ?_
        refine wp_region_lit ?_
        refine wl_run orc_ok 1 rfl fr fun a fr => ?_
        obtain ⟨hc, h⟩ := ifs h
        have S := S.frontAt 6 rfl
        have S := S.frontAt 1 rfl
        have S := S.twbOwn
        refine wl_call fr rfl rfl rfl rfl en19 (book_bytes hc S) ?_
        rintro _ w ⟨rfl, S⟩
        refine ⟨_, rfl, rfl, fun a fr => ?_⟩
        refine wpList_nil ?_
        refine blk_n ?_
        refine then_n ?_
        refine wp_region_lit ?_
        refine wl_run orc_ok 3 rfl fr fun a fr => ?_
        refine wpList_nil ?_
        have S : Sat w0 _ [bookA g19 (x55 + 1), ddsA g49 D50, diskA g53 D54, rlgA g47 g49 x48, logA g51 g53 x52] := S.mask [true, true, true, true, true, false]
        have S := S.frontAt 2 rfl
        have S := S.frontAt 4 rfl
        have S := S.frontAt 3 rfl
        have S := S.frontAt 4 rfl
        have S := S.frontAt 4 rfl
        exact ⟨(x55 + 1), g47, x48, g49, D50, g51, x52, g53, D54, (IntKind.wrap .i64 (x29 + (1 : Int))), fr.sub ⟨rfl, rfl, rfl, rfl, rfl, rfl, rfl, rfl, trivial⟩, S, h⟩
     ·refine wp_exit ?_
      refine then_e ?_
      refine then_e ?_
      refine blk_y ?_
      refine then_n ?_
      refine wp_seq ?_
      refine wp_seq ?_
      refine wp_region_lit ?_
      refine wl_run orc_ok 1 rfl fr fun a fr => ?_
      refine wpList_nil ?_
      refine then_n ?_
      refine wp_block ?_
      have S : Sat w0 _ [bookA g19 x20, ddsA g23 D24, diskA g27 D28] := S.mask [true, false, true, false, true]
      have S := S.frontAt 2 rfl
      have S := S.frontAt 2 rfl
      have S := S.frontAt 2 rfl
      refine cw_loop (fun k2 a w => ∃ x241 : Int, Fr 237 a [(5, (.int .i64 y1)), (6, (.pointer (some ⟨g27, 0, none⟩))), (8, (.pointer (some ⟨g23, 0, none⟩))), (14, (.pointer (some ⟨g19, 0, none⟩))), (27, (.int .i64 x241))] ∧ Sat w0 w [bookA g19 x20, ddsA g23 D24, diskA g27 D28] ∧ (WallsPlay.l2 k2 y1 D28 D24 x241) = some r) k1 ⟨(0 : Int), fr.sub ⟨rfl, rfl, rfl, rfl, rfl, trivial⟩, S, h⟩ ?_ ?_
      ·rintro a w ⟨x241, -, -, h⟩
       simp only [WallsPlay.l2] at h
       cases h
      ·rintro k2 a w ⟨x241, fr, S, h⟩
       rw [WallsPlay.l2] at h
       refine wp_seq ?_
       refine wp_seq ?_
       refine wp_region_lit ?_
       refine wl_run orc_ok 3 rfl fr fun a fr => ?_
       refine wpList_nil ?_
       refine then_n ?_
       refine cw_if fr rfl h (fun h => ?_) (fun h => ?_)
       ·refine wp_skip ?_
        refine then_n ?_
        refine wp_seq ?_
        refine wp_block ?_
        refine wp_seq ?_
        refine wp_region_lit ?_
        refine wl_run orc_ok 2 rfl fr fun a fr => ?_
        have S := S.frontAt 2 rfl
        obtain ⟨hc, h⟩ := ifs h
        refine wl_call fr rfl rfl rfl rfl en16 (disk_read S hc) ?_
        rintro _ w ⟨A243, c244, rfl, hv, S⟩
        refine ⟨_, rfl, hv, fun a fr => ?_⟩
        obtain ⟨l245, hx, h⟩ := lt_h h
        rw [hx] at S fr
        refine wl_run orc_ok 5 rfl fr fun a fr => ?_
        refine wpList_nil ?_
        refine then_n ?_
        refine wp_seq ?_
        refine wp_region_lit ?_
        refine wl_run orc_ok 2 rfl fr fun a fr => ?_
        have S := S.frontAt 3 rfl
        obtain ⟨hc, h⟩ := ifs h
        obtain ⟨l246, hn0, h⟩ := lt_h h
        have H := ds_read hc.1 hc.2 S
        rw [hn0] at H
        refine wl_call fr rfl rfl rfl rfl en17 H ?_
        clear H
        rintro _ w ⟨A247, c248, rfl, hv, S⟩
        refine ⟨_, rfl, hv, fun a fr => ?_⟩
        refine wl_run orc_ok 5 rfl fr fun a fr => ?_
        refine wpList_nil ?_
        refine then_n ?_
        refine wp_seq ?_
        refine wp_region_lit ?_
        refine wl_run orc_ok 6 rfl fr fun a fr => ?_
        obtain ⟨hc, h⟩ := ifs h
        obtain ⟨y249, hn0, h⟩ := lt_h h
        have H := sameR_call (A := A243) (ca := c244) (a := l245) (B := A247) (cb := c248) (b := l246) (Sat.ownAt S 2 rfl) (Sat.ownAt S 0 rfl) hc S
        rw [hn0] at H
        refine wl_call fr rfl rfl rfl rfl en18 H ?_
        clear H
        rintro _ w ⟨rfl, S⟩
        refine ⟨_, rfl, rfl, fun a fr => ?_⟩
        refine wl_run orc_ok 2 rfl fr fun a fr => ?_
        refine wpList_nil ?_
        refine then_n ?_
        refine cw_if fr rfl h (fun h => ?_) (fun h => ?_)
        ·cases h
        ·refine wp_skip ?_
         refine blk_n ?_
         refine then_n ?_
         refine wp_region_lit ?_
         refine wl_run orc_ok 6 rfl fr fun a fr => ?_
         obtain ⟨y250, hx, h⟩ := lt_h h
         have fr := fr.spell (d := 27) rfl (congrArg (Value.int .i64) hx)
         refine wpList_nil ?_
         have S : Sat w0 _ [ddsA g23 D24, diskA g27 D28, bookA g19 x20] := S.mask [false, true, false, true, true]
         have S := S.frontAt 1 rfl
         have S := S.frontAt 1 rfl
         have S := S.frontAt 2 rfl
         exact ⟨y250, fr.sub ⟨rfl, rfl, rfl, rfl, rfl, trivial⟩, S, h⟩
       ·refine wp_exit ?_
        refine then_e ?_
        refine then_e ?_
        refine blk_y ?_
        refine then_n ?_
        refine wp_seq ?_
        refine wp_region_lit ?_
        refine wl_call fr rfl rfl rfl rfl en26 (book_apart S) ?_
        rintro _ w ⟨rfl, S⟩
        refine ⟨_, rfl, rfl, fun a fr => ?_⟩
        refine wl_run orc_ok 1 rfl fr fun a fr => ?_
        refine wpList_nil ?_
        refine then_n ?_
        refine wp_ret ?_
        injection h with h
        subst h
        refine ret1 fr rfl rfl ?_
        exact ⟨rfl, fr.vok (d := 4) rfl, S.mask [false, false]⟩
 exact (key w rfl (Sat.start w)).mono fun e w' ⟨h1, h2, h3⟩ => ⟨h1, h2, S.new h3.below⟩
end Go.Proofs.YticnjkdaccacaaaGreatDoor.Pl
end
