/- Texts of this work, one behind the other. -/
import Derived.Test.YticnjkdaccacaaaGreatDoorVSectorsPlay10
import Derived.Test.YticnjkdaccacaaaGreatDoorProg
import Derived.IntWalk
import Derived.SizedLaws
section
/- Walks over the program's functions, printed by a program of this work (wip/tools/shal.py): each call does what the plain function says. -/
namespace Go.Proofs.YticnjkdaccacaaaGreatDoor.Pl
open Go Go.RowKit Sx Base Own Disk Bytes

def orc : Orc := ⟨[(3, .int .i64), (5, .int .u8), (22, .slice 48), (24, .pointer 142), (44, .struct #[Go.Field.mk "n" 3 0 false "" "concordat/concordatlaw01" 0, Go.Field.mk "bytes" 31 1 false "" "concordat/concordatlaw01" 8, Go.Field.mk "ids" 32 2 false "" "concordat/concordatlaw01" 32, Go.Field.mk "ints" 33 3 false "" "concordat/concordatlaw01" 56, Go.Field.mk "texts" 34 4 false "" "concordat/concordatlaw01" 80, Go.Field.mk "rows" 35 5 false "" "concordat/concordatlaw01" 104, Go.Field.mk "ops" 36 6 false "" "concordat/concordatlaw01" 128, Go.Field.mk "spans" 37 7 false "" "concordat/concordatlaw01" 152, Go.Field.mk "changes" 38 8 false "" "concordat/concordatlaw01" 176, Go.Field.mk "results" 39 9 false "" "concordat/concordatlaw01" 200, Go.Field.mk "msgs" 40 10 false "" "concordat/concordatlaw01" 224, Go.Field.mk "parts" 41 11 false "" "concordat/concordatlaw01" 248, Go.Field.mk "deeds" 42 12 false "" "concordat/concordatlaw01" 272]), (45, .slice 5), (46, .int .u64), (48, .struct #[Go.Field.mk "Kind" 5 0 false "" "" 0, Go.Field.mk "At" 3 1 false "" "" 8, Go.Field.mk "B" 45 2 false "" "" 16, Go.Field.mk "Keep" 46 3 false "" "" 40, Go.Field.mk "Torn" 3 4 false "" "" 48])],
  [(3, 1), (5, 1), (44, 13), (45, 1), (46, 1), (48, 5)]⟩
theorem orc_ok : orc.Ok Tryz.prog := ⟨⟨Tryz.underlying3, Tryz.underlying5, Tryz.underlying22, Tryz.underlying24, Tryz.underlying44, Tryz.underlying45, Tryz.underlying46, Tryz.underlying48, trivial⟩, ⟨by kernel_rfl, by kernel_rfl, by kernel_rfl, by kernel_rfl, by kernel_rfl, by kernel_rfl, trivial⟩⟩
theorem en8 : Enters Tryz.prog 8 := fun _ _ => by kernel_rfl
theorem en9 : Enters Tryz.prog 9 := fun _ _ => by kernel_rfl
theorem en10 : Enters Tryz.prog 10 := fun _ _ => by kernel_rfl
theorem en11 : Enters Tryz.prog 11 := fun _ _ => by kernel_rfl
theorem en12 : Enters Tryz.prog 12 := fun _ _ => by kernel_rfl
theorem en13 : Enters Tryz.prog 13 := fun _ _ => by kernel_rfl
theorem en14 : Enters Tryz.prog 14 := fun _ _ => by kernel_rfl
theorem en15 : Enters Tryz.prog 15 := fun _ _ => by kernel_rfl
theorem en16 : Enters Tryz.prog 16 := fun _ _ => by kernel_rfl
theorem en17 : Enters Tryz.prog 17 := fun _ _ => by kernel_rfl
theorem en18 : Enters Tryz.prog 18 := fun _ _ => by kernel_rfl
theorem en19 : Enters Tryz.prog 19 := fun _ _ => by kernel_rfl
theorem en20 : Enters Tryz.prog 20 := fun _ _ => by kernel_rfl
theorem en21 : Enters Tryz.prog 21 := fun _ _ => by kernel_rfl
theorem en22 : Enters Tryz.prog 22 := fun _ _ => by kernel_rfl
theorem en23 : Enters Tryz.prog 23 := fun _ _ => by kernel_rfl
theorem en24 : Enters Tryz.prog 24 := fun _ _ => by kernel_rfl
theorem en25 : Enters Tryz.prog 25 := fun _ _ => by kernel_rfl
theorem en26 : Enters Tryz.prog 26 := fun _ _ => by kernel_rfl
theorem zero48 : ∀ W, (zeroValue 48).run Tryz.prog W = .ok (.agg ([Value.int .u8 0, Value.int .i64 0, Value.slice none 0 0, Value.int .u64 0, Value.int .i64 0] : List Value).toArray) W := fun _ => by kernel_rfl
set_option maxRecDepth 100000 in
set_option maxHeartbeats 4000000 in
theorem great.walk (k : Nat) (A0 : Option Addr) (c0 : Nat) (l0 : List (Int × Int × List (Int) × Int × Int × Unit)) {w0 w : World} {R : List Asn} (rk0 : Rdr.Row (Rdr.pair (Rdr.int .u8) (Rdr.pair (Rdr.int .i64) (Rdr.pair (Rdr.sl (Rdr.int .u8)) (Rdr.pair (Rdr.int .u64) (Rdr.pair (Rdr.int .i64) Rdr.unit))))) w A0 l0) (m0 : l0.length ≤ c0 ∧ c0 ≤ maxLen) (S : Sat w0 w R) {r : Bool} (h : great.f k l0 = some r) :
    Calls Tryz.prog 8 #[(.slice A0 (List.length l0) c0)] w fun e w' => e = .returned (.bool r) ∧ vok (.bool r) = true ∧ Sat w0 w' R := by
  have key : ∀ w0 : World, w0 = w → Sat w0 w [] → Calls Tryz.prog 8 #[(.slice A0 (List.length l0) c0)] w fun e w' => e = .returned (.bool r) ∧ vok (.bool r) = true ∧ Sat w0 w' [] := by
    clear S
    intro w0 hw S
    rw [← hw] at rk0
    clear hw
    unfold great.f at h
    refine calls_start (N := 25) [(.slice A0 (List.length l0) c0)] Tryz.func8 rfl rfl rfl (vok_c (vok_sl m0) rfl) fun a fr => ?_
    refine wp_seq ?_
    refine wp_region_lit ?_
    refine wl_run orc_ok 1 rfl fr fun a fr => ?_
    refine wpList_nil ?_
    refine then_n ?_
    refine wp_seq ?_
    refine wp_region_lit ?_
    refine wl_run orc_ok 1 rfl fr fun a fr => ?_
    refine wpList_nil ?_
    refine then_n ?_
    refine wp_seq ?_
    refine wp_seq ?_
    refine wp_region_lit ?_
    refine wl_run orc_ok 1 rfl fr fun a fr => ?_
    refine wpList_nil ?_
    refine then_n ?_
    refine wp_block ?_
    refine cw_loop (fun k1 a w => ∃ x1 : Int, ∃ x2 : Int, Fr 25 a [(0, (.slice A0 (List.length l0) c0)), (3, (.int .i64 x1)), (4, (.int .i64 x2))] ∧ Sat w0 w [] ∧ (great.l1 k1 l0 x1 x2) = some r) k ⟨(0 : Int), (0 : Int), fr.sub ⟨rfl, rfl, rfl, trivial⟩, S, h⟩ ?_ ?_
    · rintro a w ⟨x1, x2, -, -, h⟩
      simp only [great.l1] at h
      cases h
    · rintro k1 a w ⟨x1, x2, fr, S, h⟩
      rw [great.l1] at h
      refine wp_seq ?_
      refine wp_seq ?_
      refine wp_region_lit ?_
      refine wl_run orc_ok 4 rfl fr fun a fr => ?_
      refine wpList_nil ?_
      refine then_n ?_
      refine cw_if fr rfl h (fun h => ?_) (fun h => ?_)
      · refine wp_skip ?_
        refine then_n ?_
        refine wp_seq ?_
        refine wp_block ?_
        refine wp_seq ?_
        refine wp_region_lit ?_
        refine wl_run orc_ok 4 rfl fr fun a fr => ?_
        obtain ⟨hc, h⟩ := ifs h
        obtain ⟨cs5, rq5, cq5⟩ := rs_get rk0 hc
        obtain ⟨y6, hx, h⟩ := lt_h h
        rw [hx] at rq5
        obtain ⟨pq5_0, qq5_0, eq5_0, fq5_0, gq5_0⟩ := rq5
        obtain ⟨zq5_0, vq5_0⟩ := fq5_0
        obtain ⟨pq5_1, qq5_1, eq5_1, fq5_1, gq5_1⟩ := gq5_0
        obtain ⟨zq5_1, vq5_1⟩ := fq5_1
        obtain ⟨pq5_2, qq5_2, eq5_2, fq5_2, gq5_2⟩ := gq5_1
        obtain ⟨A7, c8, zq5_2, hcq5_2, hmq5_2, rq5_2⟩ := fq5_2
        have mq5_2 := And.intro hcq5_2 hmq5_2
        have rq5_2 := rk_of_row rq5_2
        obtain ⟨pq5_3, qq5_3, eq5_3, fq5_3, gq5_3⟩ := gq5_2
        obtain ⟨zq5_3, vq5_3⟩ := fq5_3
        obtain ⟨pq5_4, qq5_4, eq5_4, fq5_4, gq5_4⟩ := gq5_3
        obtain ⟨zq5_4, vq5_4⟩ := fq5_4
        have uq5 : qq5_4 = [] := gq5_4
        have ec5 : cs5 = [((.int .u8 y6.1)), ((.int .i64 y6.2.1)), ((.slice A7 (List.length y6.2.2.1) c8)), ((.int .u64 y6.2.2.2.1)), ((.int .i64 y6.2.2.2.2.1))] := by rw [eq5_0, zq5_0, eq5_1, zq5_1, eq5_2, zq5_2, eq5_3, zq5_3, eq5_4, zq5_4, uq5]; rfl
        rw [ec5] at cq5
        obtain ⟨ad5, ha5, cc5⟩ := cq5
        have fr := fr.spell (d := 13) rfl (congrArg (fun z => Value.slice z (List.length l0) c0) ha5)
        refine wl_val fr rfl rfl rfl (indexAddr_run orc_ok fr rfl rfl rfl rfl rfl hc.1 hc.2 _) rfl fun a fr => ?_
        refine wl_run orc_ok 1 rfl fr fun a fr => ?_
        refine wl_ldf orc_ok (v := (.slice A7 (List.length y6.2.2.1) c8)) ⟨by rw [add_add]; exact RR.cellAt S.below (cc5 2 _ rfl), (vok_sl (A := A7) mq5_2)⟩ fr rfl rfl rfl rfl rfl rfl rfl fun a fr => ?_
        refine wl_run orc_ok 3 rfl fr fun a fr => ?_
        obtain ⟨y9, hx, h⟩ := lt_h h
        have fr := fr.spell (d := 3) rfl (congrArg (Value.int .i64) hx)
        refine wpList_nil ?_
        refine then_n ?_
        refine wp_seq ?_
        refine wp_region_lit ?_
        refine wl_run orc_ok 2 rfl fr fun a fr => ?_
        refine wpList_nil ?_
        refine then_n ?_
        refine cw_if fr rfl h (fun h => ?_) (fun h => ?_)
        · refine wp_seq ?_
          refine wp_region_lit ?_
          refine wl_run orc_ok 1 rfl fr fun a fr => ?_
          refine wpList_nil ?_
          refine then_n ?_
          refine wp_ret ?_
          refine blk_r ?_
          refine then_r ?_
          refine then_r ?_
          refine blk_r ?_
          refine then_r ?_
          injection h with h
          subst h
          refine ret1 fr rfl rfl ?_
          exact ⟨rfl, fr.vok (d := 2) rfl, S.mask []⟩
        · refine wp_skip ?_
          refine blk_n ?_
          refine then_n ?_
          refine wp_region_lit ?_
          refine wl_run orc_ok 3 rfl fr fun a fr => ?_
          refine wpList_nil ?_
          exact ⟨y9, (IntKind.wrap .i64 (x2 + (1 : Int))), fr.sub ⟨rfl, rfl, rfl, trivial⟩, S, h⟩
      · refine wp_exit ?_
        refine then_e ?_
        refine then_e ?_
        refine blk_y ?_
        refine then_n ?_
        refine wp_seq ?_
        refine wp_region_lit ?_
        refine wl_run orc_ok 4 rfl fr fun a fr => ?_
        obtain ⟨y10, hx, h⟩ := lt_h h
        have fr := fr.spell (d := 2) rfl (congrArg Value.bool hx)
        refine wpList_nil ?_
        refine then_n ?_
        refine wp_ret ?_
        injection h with h
        subst h
        refine ret1 fr rfl rfl ?_
        exact ⟨rfl, fr.vok (d := 2) rfl, S.mask []⟩
  exact (key w rfl (Sat.start w)).mono fun e w' ⟨h1, h2, h3⟩ => ⟨h1, h2, S.new h3.below⟩
set_option maxRecDepth 100000 in
set_option maxHeartbeats 4000000 in
theorem SectorsPlay.walk (k : Nat) (a0 : Int) (A1 : Option Addr) (c1 : Nat) (l1 : List (Int × Int × List (Int) × Int × Int × Unit)) {w0 w : World} {R : List Asn} (v0 : (Lit.int .i64 a0).wf = true) (rk1 : Rdr.Row (Rdr.pair (Rdr.int .u8) (Rdr.pair (Rdr.int .i64) (Rdr.pair (Rdr.sl (Rdr.int .u8)) (Rdr.pair (Rdr.int .u64) (Rdr.pair (Rdr.int .i64) Rdr.unit))))) w A1 l1) (m1 : l1.length ≤ c1 ∧ c1 ≤ maxLen) (S : Sat w0 w R) {r : Bool} (h : SectorsPlay.f k a0 l1 = some r) :
    Calls Tryz.prog 3 #[(.int .i64 a0), (.slice A1 (List.length l1) c1)] w fun e w' => e = .returned (.bool r) ∧ vok (.bool r) = true ∧ Sat w0 w' R := by
  have key : ∀ w0 : World, w0 = w → Sat w0 w [] → Calls Tryz.prog 3 #[(.int .i64 a0), (.slice A1 (List.length l1) c1)] w fun e w' => e = .returned (.bool r) ∧ vok (.bool r) = true ∧ Sat w0 w' [] := by
    clear S
    intro w0 hw S
    rw [← hw] at rk1
    clear hw
    unfold SectorsPlay.f at h
    refine calls_start (N := 175) [(.int .i64 a0), (.slice A1 (List.length l1) c1)] Tryz.func3 rfl rfl rfl (vok_c v0 (vok_c (vok_sl m1) rfl)) fun a fr => ?_
    refine wp_seq ?_
    refine wp_region_lit ?_
    refine wl_run orc_ok 1 rfl fr fun a fr => ?_
    refine wpList_nil ?_
    refine then_n ?_
    refine wp_seq ?_
    refine wp_seq ?_
    refine wp_region_lit ?_
    refine wl_run orc_ok 1 rfl fr fun a fr => ?_
    obtain ⟨r1, hr, h⟩ := bnd h
    refine wl_call fr rfl rfl rfl rfl en8 (great.walk k A1 c1 l1 (Rdr.Row.keep rk1 S.below) (fr.slice (d := 21) rfl) S hr) ?_
    rintro _ w ⟨rfl, hv, S⟩
    refine ⟨_, rfl, hv, fun a fr => ?_⟩
    refine wpList_nil ?_
    refine then_n ?_
    refine cw_if fr rfl h (fun h => ?_) (fun h => ?_)
    · refine wp_seq ?_
      refine wp_region_lit ?_
      refine wl_run orc_ok 1 rfl fr fun a fr => ?_
      refine wpList_nil ?_
      refine then_n ?_
      refine wp_ret ?_
      refine then_r ?_
      injection h with h
      subst h
      refine ret1 fr rfl rfl ?_
      exact ⟨rfl, fr.vok (d := 4) rfl, S.mask []⟩
    · refine wp_skip ?_
      refine then_n ?_
      refine wp_seq ?_
      refine wp_region_lit ?_
      refine wl_run orc_ok 1 rfl fr fun a fr => ?_
      refine ite_h h (fun hc h => ?_) (fun hc h => ?_)
      · refine wl_call fr rfl rfl rfl rfl en9 (disk_new S hc) ?_
        rintro _ w ⟨g2, rfl, S⟩
        refine ⟨_, rfl, rfl, fun a fr => ?_⟩
        refine wl_run orc_ok 5 rfl fr fun a fr => ?_
        refine wpList_nil ?_
        refine then_n ?_
        refine wp_seq ?_
        refine wp_region_lit ?_
        refine wl_run orc_ok 1 rfl fr fun a fr => ?_
        refine ite_h h (fun hc h => ?_) (fun hc h => ?_)
        · obtain ⟨D3, hn0, h⟩ := lt_h h
          have H := dd_new (fr.int (d := 29) rfl) hc S
          rw [hn0] at H
          refine wl_call fr rfl rfl rfl rfl en10 H ?_
          clear H
          rintro _ w ⟨g4, rfl, S⟩
          refine ⟨_, rfl, rfl, fun a fr => ?_⟩
          refine wl_run orc_ok 5 rfl fr fun a fr => ?_
          refine wpList_nil ?_
          refine then_n ?_
          refine wp_seq ?_
          refine wp_seq ?_
          refine wp_region_lit ?_
          refine wl_run orc_ok 3 rfl fr fun a fr => ?_
          refine wpList_nil ?_
          refine then_n ?_
          refine cw_f fr rfl ?_
          refine wp_skip ?_
          refine then_n ?_
          refine wp_seq ?_
          refine wp_seq ?_
          refine wp_region_lit ?_
          refine wl_run orc_ok 2 rfl fr fun a fr => ?_
          refine wpList_nil ?_
          refine then_n ?_
          refine cw_f fr rfl ?_
          refine wp_skip ?_
          refine then_n ?_
          refine wp_seq ?_
          refine wp_region_lit ?_
          refine wl_build (cs := (Value.int .i64 0 :: List.replicate 12 (Value.slice none 0 0))) (L2 := []) fr rfl rfl rfl rfl (by simp) (by kernel_rfl) rfl fun a fr => ?_
          refine wl_allocg fr rfl rfl rfl rfl zeroBook rfl S ?_
          intro w g5 S a fr
          refine wl_stg orc_ok (cs := (Value.int .i64 0 :: List.replicate 12 (Value.slice none 0 0))) (vs := (Value.int .i64 0 :: List.replicate 12 (Value.slice none 0 0))) fr rfl rfl rfl rfl rfl rfl rfl rfl S ?_
          intro w S
          have S := S.newBook
          refine wpList_nil ?_
          refine then_n ?_
          refine wp_seq ?_
          refine wp_seq ?_
          refine wp_region_lit ?_
          refine wl_run orc_ok 1 rfl fr fun a fr => ?_
          refine wpList_nil ?_
          refine then_n ?_
          refine wp_block ?_
          refine cw_loop (fun k1 a w => ∃ x6 : Int, ∃ g7 : Nat, ∃ D8 : List (List Int) × List (Int × List Int), ∃ g9 : Nat, ∃ D10 : Dk, ∃ x11 : Int, Fr 175 a [(1, (.slice A1 (List.length l1) c1)), (5, (.pointer (some ⟨g9, 0, none⟩))), (7, (.pointer (some ⟨g7, 0, none⟩))), (9, (.pointer (some ⟨g5, 0, none⟩))), (10, (.int .i64 x11))] ∧ Sat w0 w [bookA g5 x6, ddkA g7 D8, diskA g9 D10] ∧ (SectorsPlay.l1 k1 l1 x6 D8 D10 x11) = some r) k ⟨(0 : Int), g4, D3, g2, (Disk.blank (Int.toNat a0)), (0 : Int), fr.sub ⟨rfl, rfl, rfl, rfl, rfl, trivial⟩, S, h⟩ ?_ ?_
          · rintro a w ⟨x6, g7, D8, g9, D10, x11, -, -, h⟩
            simp only [SectorsPlay.l1] at h
            cases h
          · rintro k1 a w ⟨x6, g7, D8, g9, D10, x11, fr, S, h⟩
            rw [SectorsPlay.l1] at h
            refine wp_seq ?_
            refine wp_seq ?_
            refine wp_region_lit ?_
            refine wl_run orc_ok 4 rfl fr fun a fr => ?_
            refine wpList_nil ?_
            refine then_n ?_
            refine cw_if fr rfl h (fun h => ?_) (fun h => ?_)
            · refine wp_skip ?_
              refine then_n ?_
              refine wp_seq ?_
              refine wp_block ?_
              refine wp_seq ?_
              refine wp_region_lit ?_
              refine wl_run orc_ok 2 rfl fr fun a fr => ?_
              obtain ⟨hc, h⟩ := ifs h
              obtain ⟨cs18, rq18, cq18⟩ := rs_get rk1 hc
              obtain ⟨y19, hx, h⟩ := lt_h h
              rw [hx] at rq18
              obtain ⟨pq18_0, qq18_0, eq18_0, fq18_0, gq18_0⟩ := rq18
              obtain ⟨zq18_0, vq18_0⟩ := fq18_0
              obtain ⟨pq18_1, qq18_1, eq18_1, fq18_1, gq18_1⟩ := gq18_0
              obtain ⟨zq18_1, vq18_1⟩ := fq18_1
              obtain ⟨pq18_2, qq18_2, eq18_2, fq18_2, gq18_2⟩ := gq18_1
              obtain ⟨A20, c21, zq18_2, hcq18_2, hmq18_2, rq18_2⟩ := fq18_2
              have mq18_2 := And.intro hcq18_2 hmq18_2
              have rq18_2 := rk_of_row rq18_2
              obtain ⟨pq18_3, qq18_3, eq18_3, fq18_3, gq18_3⟩ := gq18_2
              obtain ⟨zq18_3, vq18_3⟩ := fq18_3
              obtain ⟨pq18_4, qq18_4, eq18_4, fq18_4, gq18_4⟩ := gq18_3
              obtain ⟨zq18_4, vq18_4⟩ := fq18_4
              have uq18 : qq18_4 = [] := gq18_4
              have ec18 : cs18 = [(.int .u8 y19.1), (.int .i64 y19.2.1), (.slice A20 (List.length y19.2.2.1) c21), (.int .u64 y19.2.2.2.1), (.int .i64 y19.2.2.2.2.1)] := by rw [eq18_0, zq18_0, eq18_1, zq18_1, eq18_2, zq18_2, eq18_3, zq18_3, eq18_4, zq18_4, uq18]; rfl
              rw [ec18] at cq18
              refine wl_ldrs orc_ok (i := x11) (z := 5) (cq18.imp fun _ h => ⟨h.1, fun j u hu => RR.cellAt S.below (h.2 j u hu)⟩) (vok1_ag (vok1_c (v := (.int .u8 y19.1)) vq18_0 (vok1_c (v := (.int .i64 y19.2.1)) vq18_1 (vok1_c (v := (.slice A20 (List.length y19.2.2.1) c21)) (vok_sl (A := A20) mq18_2) (vok1_c (v := (.int .u64 y19.2.2.2.1)) vq18_3 (vok1_c (v := (.int .i64 y19.2.2.2.2.1)) vq18_4 rfl)))))) fr rfl rfl rfl rfl rfl rfl rfl rfl rfl rfl rfl rfl rfl rfl rfl rfl hc fun a fr => ?_
              refine wl_allocg fr rfl rfl rfl rfl zero48 rfl S ?_
              intro w g22 S a fr
              refine wl_stu orc_ok (cs := [Value.int .u8 0, Value.int .i64 0, Value.slice none 0 0, Value.int .u64 0, Value.int .i64 0]) (vs := [(.int .u8 y19.1), (.int .i64 y19.2.1), (.slice A20 (List.length y19.2.2.1) c21), (.int .u64 y19.2.2.2.1), (.int .i64 y19.2.2.2.2.1)]) fr rfl rfl rfl rfl rfl rfl rfl rfl (by simp only [List.all_cons, List.all_nil, Bool.and_true, Bool.and_eq_true]; exact ⟨vq18_0, vq18_1, (vok_sl (A := A20) mq18_2), vq18_3, vq18_4⟩) S ?_
              intro w S
              refine wpList_nil ?_
              refine then_n ?_
              refine wp_seq ?_
              refine wp_region_lit ?_
              refine wl_run orc_ok 1 rfl fr fun a fr => ?_
              refine wl_ldf orc_ok (Sat.stAt S 0 rfl rfl) fr rfl rfl rfl rfl rfl rfl rfl fun a fr => ?_
              obtain ⟨hc, h⟩ := ifs h
              refine wl_call fr rfl rfl rfl rfl en11 (twinb_call (Rk.at rq18_2 S) hc S) ?_
              rintro _ w ⟨A23, c24, rfl, hv, S⟩
              refine ⟨_, rfl, hv, fun a fr => ?_⟩
              refine wl_run orc_ok 1 rfl fr fun a fr => ?_
              refine wpList_nil ?_
              refine then_n ?_
              refine cw_cut (fun a w => ∃ g25 : Nat, ∃ D26 : List (List Int) × List (Int × List Int), ∃ g27 : Nat, ∃ D28 : Dk, ∃ x29 : Int, Fr 175 a [(1, (.slice A1 (List.length l1) c1)), (5, (.pointer (some ⟨g27, 0, none⟩))), (7, (.pointer (some ⟨g25, 0, none⟩))), (9, (.pointer (some ⟨g5, 0, none⟩))), (10, (.int .i64 x11)), (11, (.pointer (some ⟨g22, 0, none⟩))), (12, (.slice A23 (List.length y19.2.2.1) c24))] ∧ Sat w0 w [ddkA g25 D26, diskA g27 D28, twbA A23 c24 y19.2.2.1, stA 48 g22 [(.int .u8 y19.1), (.int .i64 y19.2.1), (.slice A20 (List.length y19.2.2.1) c21), (.int .u64 y19.2.2.2.1), (.int .i64 y19.2.2.2.2.1)], bookA g5 x29] ∧ (SectorsPlay.j1 (SectorsPlay.l1 k1 l1) y19 x11 D26 D28 x29) = some r) ?_ ?_
              · refine wp_seq ?_
                refine wp_region_lit ?_
                refine wl_run orc_ok 1 rfl fr fun a fr => ?_
                refine wl_ldf orc_ok (Sat.stAt S 1 rfl rfl) fr rfl rfl rfl rfl rfl rfl rfl fun a fr => ?_
                refine wl_run orc_ok 1 rfl fr fun a fr => ?_
                refine wpList_nil ?_
                refine then_n ?_
                refine wp_block ?_
                refine wp_seq ?_
                refine wp_seq ?_
                refine wp_region_lit ?_
                refine wl_run orc_ok 2 rfl fr fun a fr => ?_
                refine wpList_nil ?_
                refine then_n ?_
                refine cw_if fr rfl h (fun h => ?_) (fun h => ?_)
                · refine wp_skip ?_
                  refine then_n ?_
                  refine cw_if fr rfl h (fun h => ?_) (fun h => ?_)
                  · refine wp_seq ?_
                    refine wp_region_sl [.one (0, true, some 109), .one (1, true, some 110), .one (2, true, some 111), .one (3, true, some 112), .one (5, true, some 114), .one (6, true, some 115), .one (7, true, some 116), .one (8, true, some 117), .one (9, true, some 118), .one (4, false, some 113), .one (10, false, some 119), .one (11, true, some 120)]
                      [.one ⟨true, some 109, (Go.Op.move (Go.Operand.tmp 5)), 24, none⟩,
    .one ⟨true, some 110, (Go.Op.fieldAddr 48 (Go.Operand.tmp 11) 1), 0, none⟩,
    .one ⟨true, some 111, (Go.Op.load 3 (Go.Operand.tmp 110)), 3, none⟩,
    .one ⟨true, some 112, (Go.Op.move (Go.Operand.tmp 12)), 45, none⟩,
    .one ⟨true, some 114, (Go.Op.move (Go.Operand.tmp 7)), 28, none⟩,
    .one ⟨true, some 115, (Go.Op.fieldAddr 48 (Go.Operand.tmp 11) 1), 0, none⟩,
    .one ⟨true, some 116, (Go.Op.load 3 (Go.Operand.tmp 115)), 3, none⟩,
    .one ⟨true, some 117, (Go.Op.fieldAddr 48 (Go.Operand.tmp 11) 2), 0, none⟩,
    .one ⟨true, some 118, (Go.Op.load 45 (Go.Operand.tmp 117)), 45, none⟩,
    .one ⟨false, some 113, (Go.Op.call { callee := (Go.Callee.value (Go.Operand.func 12)), args := #[(Go.Operand.tmp 109), (Go.Operand.tmp 111), (Go.Operand.tmp 112)], argTypes := #[24, 3, 45] }), 25, none⟩,
    .one ⟨false, some 119, (Go.Op.call { callee := (Go.Callee.value (Go.Operand.func 13)), args := #[(Go.Operand.tmp 114), (Go.Operand.tmp 116), (Go.Operand.tmp 118)], argTypes := #[28, 3, 45] }), 25, none⟩,
    .one ⟨true, some 120, (Go.Op.binOp Go.BinOp.neq 25 (Go.Operand.tmp 113) (Go.Operand.tmp 119) 25), 4, none⟩]
                      (fun w => Sat w0 w [stA 48 g22 [(.int .u8 y19.1), (.int .i64 y19.2.1), (.slice A20 (List.length y19.2.2.1) c21), (.int .u64 y19.2.2.2.1), (.int .i64 y19.2.2.2.2.1)], bookA g5 x6]) rfl (by kernel_rfl) (by kernel_rfl) (S.drew.mask [false, true, true, false, false]) ?_
                    have S := S.drew
                    refine sl_run orc_ok 2 rfl fr fun a fr => ?_
                    refine sl_ldf orc_ok (fun _ S => Sat.stAt S 0 rfl rfl) fr rfl rfl rfl rfl rfl rfl rfl rfl (Sat.mask S [false, true, true, false, false]) fun a fr => ?_
                    refine sl_run orc_ok 3 rfl fr fun a fr => ?_
                    refine sl_ldf orc_ok (fun _ S => Sat.stAt S 0 rfl rfl) fr rfl rfl rfl rfl rfl rfl rfl rfl (Sat.mask S [false, true, true, false, false]) fun a fr => ?_
                    refine sl_run orc_ok 1 rfl fr fun a fr => ?_
                    refine sl_ldf orc_ok (fun _ S => Sat.stAt S 0 rfl rfl) fr rfl rfl rfl rfl rfl rfl rfl rfl (Sat.mask S [false, true, true, false, false]) fun a fr => ?_
                    have S : Sat w0 _ [diskA g9 D10, twbA A23 c24 y19.2.2.1, stA 48 g22 [(.int .u8 y19.1), (.int .i64 y19.2.1), (.slice A20 (List.length y19.2.2.1) c21), (.int .u64 y19.2.2.2.1), (.int .i64 y19.2.2.2.2.1)], bookA g5 x6, ddkA g7 D8] := S.frontAt 4 rfl
                    obtain ⟨hc, h⟩ := ifs h
                    refine sl_call fr rfl rfl rfl rfl rfl en12 (disk_write S y19.2.1 (Sat.twbAt S 1 rfl) hc) ?_
                    rintro _ w ⟨rfl, hv, S⟩
                    refine ⟨_, rfl, hv, (Sat.mask S [false, false, true, true, false]), fun a fr => ?_⟩
                    obtain ⟨D31, hx, h⟩ := lt_h h
                    rw [hx] at S
                    have S : Sat w0 _ [ddkA g7 D8, diskA g9 D31, twbA A23 c24 y19.2.2.1, stA 48 g22 [(.int .u8 y19.1), (.int .i64 y19.2.1), (.slice A20 (List.length y19.2.2.1) c21), (.int .u64 y19.2.2.2.1), (.int .i64 y19.2.2.2.2.1)], bookA g5 x6] := S.frontAt 4 rfl
                    obtain ⟨hc, h⟩ := ifs h
                    obtain ⟨y32, hn0, h⟩ := lt_h h
                    obtain ⟨D33, hn1, h⟩ := lt_h h
                    have H := dd_write (A := A20) (c := c21) (l := y19.2.2.1) (fr.int (d := 116) rfl) (fr.slice (d := 118) rfl) (fun _ S => Rk.at rq18_2 S) hc S
                    rw [hn0, hn1] at H
                    refine sl_call fr rfl rfl rfl rfl rfl en13 H ?_
                    clear H
                    rintro _ w ⟨rfl, hv, S⟩
                    refine ⟨_, rfl, hv, (Sat.mask S [false, false, false, true, true]), fun a fr => ?_⟩
                    refine sl_run orc_ok 1 rfl fr fun a fr => ?_
                    refine sl_end ?_
                    refine then_n ?_
                    refine cw_if fr rfl h (fun h => ?_) (fun h => ?_)
                    · cases h
                    · refine wp_skip ?_
                      refine blk_n ?_
                      exact ⟨g7, D33, g9, D31, x6, fr.sub ⟨rfl, rfl, rfl, rfl, rfl, rfl, rfl, trivial⟩, S, h⟩
                  · refine wp_seq ?_
                    refine wp_region_lit ?_
                    refine wl_run orc_ok 2 rfl fr fun a fr => ?_
                    refine wpList_nil ?_
                    refine then_n ?_
                    refine cw_if fr rfl h (fun h => ?_) (fun h => ?_)
                    · refine wp_seq ?_
                      refine wp_region_lit ?_
                      refine wl_run orc_ok 1 rfl fr fun a fr => ?_
                      have S : Sat w0 _ [ddkA g7 D8, twbA A23 c24 y19.2.2.1, stA 48 g22 [(.int .u8 y19.1), (.int .i64 y19.2.1), (.slice A20 (List.length y19.2.2.1) c21), (.int .u64 y19.2.2.2.1), (.int .i64 y19.2.2.2.2.1)], bookA g5 x6, diskA g9 D10] := S.frontAt 3 rfl
                      obtain ⟨hc, h⟩ := ifs h
                      obtain ⟨D34, hn0, h⟩ := lt_h h
                      have H := dd_sync hc.1 hc.2 S
                      rw [hn0] at H
                      refine wl_call fr rfl rfl rfl rfl en14 H ?_
                      clear H
                      rintro _ w ⟨rfl, S⟩
                      refine ⟨_, rfl, rfl, fun a fr => ?_⟩
                      refine wpList_nil ?_
                      refine then_n ?_
                      refine wp_seq ?_
                      refine wp_region_lit ?_
                      refine wl_run orc_ok 1 rfl fr fun a fr => ?_
                      have S : Sat w0 _ [diskA g9 D10, ddkA g7 D34, twbA A23 c24 y19.2.2.1, stA 48 g22 [(.int .u8 y19.1), (.int .i64 y19.2.1), (.slice A20 (List.length y19.2.2.1) c21), (.int .u64 y19.2.2.2.1), (.int .i64 y19.2.2.2.2.1)], bookA g5 x6] := S.frontAt 4 rfl
                      refine wl_call fr rfl rfl rfl rfl en15 (disk_sync S) ?_
                      rintro _ w ⟨rfl, S⟩
                      refine ⟨_, rfl, rfl, fun a fr => ?_⟩
                      refine wl_run orc_ok 1 rfl fr fun a fr => ?_
                      refine wpList_nil ?_
                      refine then_n ?_
                      refine cw_f fr rfl ?_
                      refine wp_skip ?_
                      refine blk_n ?_
                      have S : Sat w0 _ [bookA g5 x6, diskA g9 (Dk.sync D10), ddkA g7 D34, twbA A23 c24 y19.2.2.1, stA 48 g22 [(.int .u8 y19.1), (.int .i64 y19.2.1), (.slice A20 (List.length y19.2.2.1) c21), (.int .u64 y19.2.2.2.1), (.int .i64 y19.2.2.2.2.1)]] := S.frontAt 4 rfl
                      have S : Sat w0 _ [stA 48 g22 [(.int .u8 y19.1), (.int .i64 y19.2.1), (.slice A20 (List.length y19.2.2.1) c21), (.int .u64 y19.2.2.2.1), (.int .i64 y19.2.2.2.2.1)], bookA g5 x6, diskA g9 (Dk.sync D10), ddkA g7 D34, twbA A23 c24 y19.2.2.1] := S.frontAt 4 rfl
                      have S : Sat w0 _ [twbA A23 c24 y19.2.2.1, stA 48 g22 [(.int .u8 y19.1), (.int .i64 y19.2.1), (.slice A20 (List.length y19.2.2.1) c21), (.int .u64 y19.2.2.2.1), (.int .i64 y19.2.2.2.2.1)], bookA g5 x6, diskA g9 (Dk.sync D10), ddkA g7 D34] := S.frontAt 4 rfl
                      have S : Sat w0 _ [diskA g9 (Dk.sync D10), twbA A23 c24 y19.2.2.1, stA 48 g22 [(.int .u8 y19.1), (.int .i64 y19.2.1), (.slice A20 (List.length y19.2.2.1) c21), (.int .u64 y19.2.2.2.1), (.int .i64 y19.2.2.2.2.1)], bookA g5 x6, ddkA g7 D34] := S.frontAt 3 rfl
                      have S : Sat w0 _ [ddkA g7 D34, diskA g9 (Dk.sync D10), twbA A23 c24 y19.2.2.1, stA 48 g22 [(.int .u8 y19.1), (.int .i64 y19.2.1), (.slice A20 (List.length y19.2.2.1) c21), (.int .u64 y19.2.2.2.1), (.int .i64 y19.2.2.2.2.1)], bookA g5 x6] := S.frontAt 4 rfl
                      exact ⟨g7, D34, g9, (Dk.sync D10), x6, fr.sub ⟨rfl, rfl, rfl, rfl, rfl, rfl, rfl, trivial⟩, S, h⟩
                    · refine wp_seq ?_
                      refine wp_region_lit ?_
                      refine wl_run orc_ok 2 rfl fr fun a fr => ?_
                      refine wpList_nil ?_
                      refine then_n ?_
                      refine cw_if fr rfl h (fun h => ?_) (fun h => ?_)
                      · refine wp_seq ?_
                        refine wp_region_lit ?_
                        refine wl_run orc_ok 2 rfl fr fun a fr => ?_
                        refine wl_ldf orc_ok (Sat.stAt S 1 rfl rfl) fr rfl rfl rfl rfl rfl rfl rfl fun a fr => ?_
                        have S : Sat w0 _ [diskA g9 D10, twbA A23 c24 y19.2.2.1, stA 48 g22 [(.int .u8 y19.1), (.int .i64 y19.2.1), (.slice A20 (List.length y19.2.2.1) c21), (.int .u64 y19.2.2.2.1), (.int .i64 y19.2.2.2.2.1)], bookA g5 x6, ddkA g7 D8] := S.frontAt 4 rfl
                        refine ite_h h (fun hc h => ?_) (fun hc h => ?_)
                        · obtain ⟨l35, hn0, h⟩ := lt_h h
                          have H := disk_read S hc
                          rw [hn0] at H
                          refine wl_call fr rfl rfl rfl rfl en16 H ?_
                          clear H
                          rintro _ w ⟨A36, c37, rfl, hv, S⟩
                          refine ⟨_, rfl, hv, fun a fr => ?_⟩
                          refine wl_run orc_ok 5 rfl fr fun a fr => ?_
                          refine wpList_nil ?_
                          refine then_n ?_
                          refine wp_seq ?_
                          refine wp_region_lit ?_
                          refine wl_run orc_ok 2 rfl fr fun a fr => ?_
                          refine wl_ldf orc_ok (Sat.stAt S 3 rfl rfl) fr rfl rfl rfl rfl rfl rfl rfl fun a fr => ?_
                          have S : Sat w0 _ [ddkA g7 D8, ownA .u8 5 A36 c37 l35, diskA g9 D10, twbA A23 c24 y19.2.2.1, stA 48 g22 [(.int .u8 y19.1), (.int .i64 y19.2.1), (.slice A20 (List.length y19.2.2.1) c21), (.int .u64 y19.2.2.2.1), (.int .i64 y19.2.2.2.2.1)], bookA g5 x6] := S.frontAt 5 rfl
                          refine ite_h h (fun hc h => ?_) (fun hc h => ?_)
                          · obtain ⟨hd, h⟩ := ifs h
                            obtain ⟨l38, hn0, h⟩ := lt_h h
                            have H := dd_read hc hd S
                            rw [hn0] at H
                            refine wl_call fr rfl rfl rfl rfl en17 H ?_
                            clear H
                            rintro _ w ⟨A39, c40, rfl, hv, S⟩
                            refine ⟨_, rfl, hv, fun a fr => ?_⟩
                            refine wl_run orc_ok 5 rfl fr fun a fr => ?_
                            refine wpList_nil ?_
                            refine then_n ?_
                            refine wp_seq ?_
                            refine wp_seq ?_
                            refine wp_region_lit ?_
                            refine wl_run orc_ok 6 rfl fr fun a fr => ?_
                            obtain ⟨hc, h⟩ := ifs h
                            obtain ⟨y41, hn0, h⟩ := lt_h h
                            have H := same_call (A := A36) (ca := c37) (a := l35) (B := A39) (cb := c40) (b := l38) (Sat.ownAt S 2 rfl) (Sat.ownAt S 0 rfl) hc S
                            rw [hn0] at H
                            refine wl_call fr rfl rfl rfl rfl en18 H ?_
                            clear H
                            rintro _ w ⟨rfl, S⟩
                            refine ⟨_, rfl, rfl, fun a fr => ?_⟩
                            refine wl_run orc_ok 2 rfl fr fun a fr => ?_
                            refine wpList_nil ?_
                            refine then_n ?_
                            refine cw_if fr rfl h (fun h => ?_) (fun h => ?_)
                            · cases h
                            · refine wp_skip ?_
                              refine then_n ?_
                              refine wp_region_lit ?_
                              refine wl_run orc_ok 1 rfl fr fun a fr => ?_
                              obtain ⟨hc, h⟩ := ifs h
                              have S : Sat w0 _ [bookA g5 x6, ownA .u8 5 A39 c40 l38, ddkA g7 D8, ownA .u8 5 A36 c37 l35, diskA g9 D10, twbA A23 c24 y19.2.2.1, stA 48 g22 [(.int .u8 y19.1), (.int .i64 y19.2.1), (.slice A20 (List.length y19.2.2.1) c21), (.int .u64 y19.2.2.2.1), (.int .i64 y19.2.2.2.2.1)]] := S.frontAt 6 rfl
                              have S : Sat w0 _ [ownA .u8 5 A36 c37 l35, bookA g5 x6, ownA .u8 5 A39 c40 l38, ddkA g7 D8, diskA g9 D10, twbA A23 c24 y19.2.2.1, stA 48 g22 [(.int .u8 y19.1), (.int .i64 y19.2.1), (.slice A20 (List.length y19.2.2.1) c21), (.int .u64 y19.2.2.2.1), (.int .i64 y19.2.2.2.2.1)]] := S.frontAt 3 rfl
                              refine wl_call fr rfl rfl rfl rfl en19 (book_bytes hc S) ?_
                              rintro _ w ⟨rfl, S⟩
                              refine ⟨_, rfl, rfl, fun a fr => ?_⟩
                              refine wpList_nil ?_
                              refine blk_n ?_
                              have S : Sat w0 _ [bookA g5 (x6 + 1), ddkA g7 D8, diskA g9 D10, twbA A23 c24 y19.2.2.1, stA 48 g22 [(.int .u8 y19.1), (.int .i64 y19.2.1), (.slice A20 (List.length y19.2.2.1) c21), (.int .u64 y19.2.2.2.1), (.int .i64 y19.2.2.2.2.1)]] := S.mask [true, false, true, true, true, true]
                              have S : Sat w0 _ [stA 48 g22 [(.int .u8 y19.1), (.int .i64 y19.2.1), (.slice A20 (List.length y19.2.2.1) c21), (.int .u64 y19.2.2.2.1), (.int .i64 y19.2.2.2.2.1)], bookA g5 (x6 + 1), ddkA g7 D8, diskA g9 D10, twbA A23 c24 y19.2.2.1] := S.frontAt 4 rfl
                              have S : Sat w0 _ [twbA A23 c24 y19.2.2.1, stA 48 g22 [(.int .u8 y19.1), (.int .i64 y19.2.1), (.slice A20 (List.length y19.2.2.1) c21), (.int .u64 y19.2.2.2.1), (.int .i64 y19.2.2.2.2.1)], bookA g5 (x6 + 1), ddkA g7 D8, diskA g9 D10] := S.frontAt 4 rfl
                              have S : Sat w0 _ [diskA g9 D10, twbA A23 c24 y19.2.2.1, stA 48 g22 [(.int .u8 y19.1), (.int .i64 y19.2.1), (.slice A20 (List.length y19.2.2.1) c21), (.int .u64 y19.2.2.2.1), (.int .i64 y19.2.2.2.2.1)], bookA g5 (x6 + 1), ddkA g7 D8] := S.frontAt 4 rfl
                              have S : Sat w0 _ [ddkA g7 D8, diskA g9 D10, twbA A23 c24 y19.2.2.1, stA 48 g22 [(.int .u8 y19.1), (.int .i64 y19.2.1), (.slice A20 (List.length y19.2.2.1) c21), (.int .u64 y19.2.2.2.1), (.int .i64 y19.2.2.2.2.1)], bookA g5 (x6 + 1)] := S.frontAt 4 rfl
                              exact ⟨g7, D8, g9, D10, (x6 + 1), fr.sub ⟨rfl, rfl, rfl, rfl, rfl, rfl, rfl, trivial⟩, S, h⟩
                          · cases h
                        · have H := disk_read_no S hc
                          refine wl_call fr rfl rfl rfl rfl en16 H ?_
                          clear H
                          rintro _ w ⟨rfl, S⟩
                          refine ⟨_, rfl, rfl, fun a fr => ?_⟩
                          refine wl_run orc_ok 5 rfl fr fun a fr => ?_
                          refine wpList_nil ?_
                          refine then_n ?_
                          refine wp_seq ?_
                          refine wp_region_lit ?_
                          refine wl_run orc_ok 2 rfl fr fun a fr => ?_
                          refine wl_ldf orc_ok (Sat.stAt S 2 rfl rfl) fr rfl rfl rfl rfl rfl rfl rfl fun a fr => ?_
                          have S : Sat w0 _ [ddkA g7 D8, diskA g9 D10, twbA A23 c24 y19.2.2.1, stA 48 g22 [(.int .u8 y19.1), (.int .i64 y19.2.1), (.slice A20 (List.length y19.2.2.1) c21), (.int .u64 y19.2.2.2.1), (.int .i64 y19.2.2.2.2.1)], bookA g5 x6] := S.frontAt 4 rfl
                          refine ite_h h (fun hc h => ?_) (fun hc h => ?_)
                          · cases h
                          · have H := dd_read_no (fr.int (d := 140) rfl) hc S
                            refine wl_call fr rfl rfl rfl rfl en17 H ?_
                            clear H
                            rintro _ w ⟨rfl, S⟩
                            refine ⟨_, rfl, rfl, fun a fr => ?_⟩
                            refine wl_run orc_ok 5 rfl fr fun a fr => ?_
                            refine wpList_nil ?_
                            refine then_n ?_
                            refine wp_seq ?_
                            refine wp_seq ?_
                            refine wp_region_lit ?_
                            refine wl_run orc_ok 6 rfl fr fun a fr => ?_
                            obtain ⟨hc, h⟩ := ifs h
                            obtain ⟨y45, hn0, h⟩ := lt_h h
                            have H := same_call (A := none) (ca := 0) (a := ([] : List Int)) (B := none) (cb := 0) (b := ([] : List Int)) Rk.nil Rk.nil hc S
                            rw [hn0] at H
                            refine wl_call fr rfl rfl rfl rfl en18 H ?_
                            clear H
                            rintro _ w ⟨rfl, S⟩
                            refine ⟨_, rfl, rfl, fun a fr => ?_⟩
                            refine wl_run orc_ok 2 rfl fr fun a fr => ?_
                            refine wpList_nil ?_
                            refine then_n ?_
                            refine cw_if fr rfl h (fun h => ?_) (fun h => ?_)
                            · cases h
                            · refine wp_skip ?_
                              refine then_n ?_
                              refine wp_region_lit ?_
                              refine wl_run orc_ok 1 rfl fr fun a fr => ?_
                              obtain ⟨hc, h⟩ := ifs h
                              have S : Sat w0 _ [ownA .u8 5 none 0 ([] : List Int), ddkA g7 D8, diskA g9 D10, twbA A23 c24 y19.2.2.1, stA 48 g22 [(.int .u8 y19.1), (.int .i64 y19.2.1), (.slice A20 (List.length y19.2.2.1) c21), (.int .u64 y19.2.2.2.1), (.int .i64 y19.2.2.2.2.1)], bookA g5 x6] := S.nilRow .u8 5
                              have S : Sat w0 _ [bookA g5 x6, ownA .u8 5 none 0 ([] : List Int), ddkA g7 D8, diskA g9 D10, twbA A23 c24 y19.2.2.1, stA 48 g22 [(.int .u8 y19.1), (.int .i64 y19.2.1), (.slice A20 (List.length y19.2.2.1) c21), (.int .u64 y19.2.2.2.1), (.int .i64 y19.2.2.2.2.1)]] := S.frontAt 5 rfl
                              have S : Sat w0 _ [ownA .u8 5 none 0 ([] : List Int), bookA g5 x6, ddkA g7 D8, diskA g9 D10, twbA A23 c24 y19.2.2.1, stA 48 g22 [(.int .u8 y19.1), (.int .i64 y19.2.1), (.slice A20 (List.length y19.2.2.1) c21), (.int .u64 y19.2.2.2.1), (.int .i64 y19.2.2.2.2.1)]] := S.frontAt 1 rfl
                              refine wl_call fr rfl rfl rfl rfl en19 (book_bytes (l := ([] : List Int)) (A := none) (c := 0) hc S) ?_
                              rintro _ w ⟨rfl, S⟩
                              refine ⟨_, rfl, rfl, fun a fr => ?_⟩
                              refine wpList_nil ?_
                              refine blk_n ?_
                              have S : Sat w0 _ [stA 48 g22 [(.int .u8 y19.1), (.int .i64 y19.2.1), (.slice A20 (List.length y19.2.2.1) c21), (.int .u64 y19.2.2.2.1), (.int .i64 y19.2.2.2.2.1)], bookA g5 (x6 + 1), ddkA g7 D8, diskA g9 D10, twbA A23 c24 y19.2.2.1] := S.frontAt 4 rfl
                              have S : Sat w0 _ [twbA A23 c24 y19.2.2.1, stA 48 g22 [(.int .u8 y19.1), (.int .i64 y19.2.1), (.slice A20 (List.length y19.2.2.1) c21), (.int .u64 y19.2.2.2.1), (.int .i64 y19.2.2.2.2.1)], bookA g5 (x6 + 1), ddkA g7 D8, diskA g9 D10] := S.frontAt 4 rfl
                              have S : Sat w0 _ [diskA g9 D10, twbA A23 c24 y19.2.2.1, stA 48 g22 [(.int .u8 y19.1), (.int .i64 y19.2.1), (.slice A20 (List.length y19.2.2.1) c21), (.int .u64 y19.2.2.2.1), (.int .i64 y19.2.2.2.2.1)], bookA g5 (x6 + 1), ddkA g7 D8] := S.frontAt 4 rfl
                              have S : Sat w0 _ [ddkA g7 D8, diskA g9 D10, twbA A23 c24 y19.2.2.1, stA 48 g22 [(.int .u8 y19.1), (.int .i64 y19.2.1), (.slice A20 (List.length y19.2.2.1) c21), (.int .u64 y19.2.2.2.1), (.int .i64 y19.2.2.2.2.1)], bookA g5 (x6 + 1)] := S.frontAt 4 rfl
                              exact ⟨g7, D8, g9, D10, (x6 + 1), fr.sub ⟨rfl, rfl, rfl, rfl, rfl, rfl, rfl, trivial⟩, S, h⟩
                      · refine wp_seq ?_
                        refine wp_region_lit ?_
                        refine wl_run orc_ok 2 rfl fr fun a fr => ?_
                        refine wl_ldf orc_ok (Sat.stAt S 1 rfl rfl) fr rfl rfl rfl rfl rfl rfl rfl fun a fr => ?_
                        refine wl_run orc_ok 1 rfl fr fun a fr => ?_
                        refine wl_ldf orc_ok (Sat.stAt S 1 rfl rfl) fr rfl rfl rfl rfl rfl rfl rfl fun a fr => ?_
                        have S : Sat w0 _ [diskA g9 D10, twbA A23 c24 y19.2.2.1, stA 48 g22 [(.int .u8 y19.1), (.int .i64 y19.2.1), (.slice A20 (List.length y19.2.2.1) c21), (.int .u64 y19.2.2.2.1), (.int .i64 y19.2.2.2.2.1)], bookA g5 x6, ddkA g7 D8] := S.frontAt 4 rfl
                        refine ite_h h (fun hc h => ?_) (fun hc h => ?_)
                        · obtain ⟨hd, h⟩ := ifs h
                          obtain ⟨D46, hn0, h⟩ := lt_h h
                          have H := disk_fail S (fr.int (d := 60) rfl) (fr.int (d := 62) rfl) ⟨hd, hc⟩
                          rw [hn0] at H
                          refine wl_call fr rfl rfl rfl rfl en20 H ?_
                          clear H
                          rintro _ w ⟨g47, rfl, S⟩
                          refine ⟨_, rfl, rfl, fun a fr => ?_⟩
                          refine wl_run orc_ok 5 rfl fr fun a fr => ?_
                          refine wpList_nil ?_
                          refine then_n ?_
                          refine wp_seq ?_
                          refine wp_region_lit ?_
                          refine wl_run orc_ok 2 rfl fr fun a fr => ?_
                          refine wl_ldf orc_ok (Sat.stAt S 3 rfl rfl) fr rfl rfl rfl rfl rfl rfl rfl fun a fr => ?_
                          refine wl_run orc_ok 1 rfl fr fun a fr => ?_
                          refine wl_ldf orc_ok (Sat.stAt S 3 rfl rfl) fr rfl rfl rfl rfl rfl rfl rfl fun a fr => ?_
                          have S : Sat w0 _ [ddkA g7 D8, diskA g47 D46, diskA g9 D10, twbA A23 c24 y19.2.2.1, stA 48 g22 [(.int .u8 y19.1), (.int .i64 y19.2.1), (.slice A20 (List.length y19.2.2.1) c21), (.int .u64 y19.2.2.2.1), (.int .i64 y19.2.2.2.2.1)], bookA g5 x6] := S.frontAt 5 rfl
                          refine ite_h h (fun hc h => ?_) (fun hc h => ?_)
                          · obtain ⟨hd, h⟩ := ifs h
                            obtain ⟨D48, hn0, h⟩ := lt_h h
                            have H := dd_fail (fr.int (d := 69) rfl) (fr.int (d := 71) rfl) hc hd.1 hd.2.1 hd.2.2 S
                            rw [hn0] at H
                            refine wl_call fr rfl rfl rfl rfl en21 H ?_
                            clear H
                            rintro _ w ⟨g49, rfl, S⟩
                            refine ⟨_, rfl, rfl, fun a fr => ?_⟩
                            refine wl_run orc_ok 5 rfl fr fun a fr => ?_
                            refine wpList_nil ?_
                            refine then_n ?_
                            refine wp_seq ?_
                            refine wp_seq ?_
                            refine wp_region_lit ?_
                            refine wl_run orc_ok 17 rfl fr fun a fr => ?_
                            have S : Sat w0 _ [diskA g47 D46, ddkA g49 D48, ddkA g7 D8, diskA g9 D10, twbA A23 c24 y19.2.2.1, stA 48 g22 [(.int .u8 y19.1), (.int .i64 y19.2.1), (.slice A20 (List.length y19.2.2.1) c21), (.int .u64 y19.2.2.2.1), (.int .i64 y19.2.2.2.2.1)], bookA g5 x6] := S.frontAt 2 rfl
                            obtain ⟨hc, h⟩ := ifs h
                            have H := like_call hc.1 hc.2 S
                            refine wl_call fr rfl rfl rfl rfl en22 H ?_
                            clear H
                            rintro _ w ⟨rfl, S⟩
                            refine ⟨_, rfl, rfl, fun a fr => ?_⟩
                            refine wl_run orc_ok 3 rfl fr fun a fr => ?_
                            refine wpList_nil ?_
                            refine then_n ?_
                            refine cw_f fr rfl ?_
                            refine wp_skip ?_
                            refine then_n ?_
                            refine wp_seq ?_
                            refine wp_region_lit ?_
                            refine wl_run orc_ok 4 rfl fr fun a fr => ?_
                            refine wl_ldf orc_ok (Sat.stAt S 5 rfl rfl) fr rfl rfl rfl rfl rfl rfl rfl fun a fr => ?_
                            refine wl_run orc_ok 3 rfl fr fun a fr => ?_
                            refine wpList_nil ?_
                            refine then_n ?_
                            refine cw_if fr rfl h (fun h => ?_) (fun h => ?_)
                            · refine wp_seq ?_
                              refine wp_region_lit ?_
                              refine wl_run orc_ok 1 rfl fr fun a fr => ?_
                              have S : Sat w0 _ [diskA g47 D46, ddkA g49 D48, ddkA g7 D8, twbA A23 c24 y19.2.2.1, stA 48 g22 [(.int .u8 y19.1), (.int .i64 y19.2.1), (.slice A20 (List.length y19.2.2.1) c21), (.int .u64 y19.2.2.2.1), (.int .i64 y19.2.2.2.2.1)], bookA g5 x6] := S.mask [true, true, true, false, true, true, true]
                              refine wl_run orc_ok 1 rfl fr fun a fr => ?_
                              refine wpList_nil ?_
                              refine then_n ?_
                              refine wp_region_lit ?_
                              refine wl_run orc_ok 1 rfl fr fun a fr => ?_
                              have S : Sat w0 _ [diskA g47 D46, ddkA g49 D48, twbA A23 c24 y19.2.2.1, stA 48 g22 [(.int .u8 y19.1), (.int .i64 y19.2.1), (.slice A20 (List.length y19.2.2.1) c21), (.int .u64 y19.2.2.2.1), (.int .i64 y19.2.2.2.2.1)], bookA g5 x6] := S.mask [true, true, false, true, true, true]
                              refine wl_run orc_ok 1 rfl fr fun a fr => ?_
                              refine wpList_nil ?_
                              refine blk_n ?_
                              have S : Sat w0 _ [bookA g5 x6, diskA g47 D46, ddkA g49 D48, twbA A23 c24 y19.2.2.1, stA 48 g22 [(.int .u8 y19.1), (.int .i64 y19.2.1), (.slice A20 (List.length y19.2.2.1) c21), (.int .u64 y19.2.2.2.1), (.int .i64 y19.2.2.2.2.1)]] := S.frontAt 4 rfl
                              have S : Sat w0 _ [stA 48 g22 [(.int .u8 y19.1), (.int .i64 y19.2.1), (.slice A20 (List.length y19.2.2.1) c21), (.int .u64 y19.2.2.2.1), (.int .i64 y19.2.2.2.2.1)], bookA g5 x6, diskA g47 D46, ddkA g49 D48, twbA A23 c24 y19.2.2.1] := S.frontAt 4 rfl
                              have S : Sat w0 _ [twbA A23 c24 y19.2.2.1, stA 48 g22 [(.int .u8 y19.1), (.int .i64 y19.2.1), (.slice A20 (List.length y19.2.2.1) c21), (.int .u64 y19.2.2.2.1), (.int .i64 y19.2.2.2.2.1)], bookA g5 x6, diskA g47 D46, ddkA g49 D48] := S.frontAt 4 rfl
                              have S : Sat w0 _ [diskA g47 D46, twbA A23 c24 y19.2.2.1, stA 48 g22 [(.int .u8 y19.1), (.int .i64 y19.2.1), (.slice A20 (List.length y19.2.2.1) c21), (.int .u64 y19.2.2.2.1), (.int .i64 y19.2.2.2.2.1)], bookA g5 x6, ddkA g49 D48] := S.frontAt 3 rfl
                              have S : Sat w0 _ [ddkA g49 D48, diskA g47 D46, twbA A23 c24 y19.2.2.1, stA 48 g22 [(.int .u8 y19.1), (.int .i64 y19.2.1), (.slice A20 (List.length y19.2.2.1) c21), (.int .u64 y19.2.2.2.1), (.int .i64 y19.2.2.2.2.1)], bookA g5 x6] := S.frontAt 4 rfl
                              exact ⟨g49, D48, g47, D46, x6, fr.sub ⟨rfl, rfl, rfl, rfl, rfl, rfl, rfl, trivial⟩, S, h⟩
                            · refine wp_skip ?_
                              refine blk_n ?_
                              have S : Sat w0 _ [ddkA g7 D8, diskA g9 D10, twbA A23 c24 y19.2.2.1, stA 48 g22 [(.int .u8 y19.1), (.int .i64 y19.2.1), (.slice A20 (List.length y19.2.2.1) c21), (.int .u64 y19.2.2.2.1), (.int .i64 y19.2.2.2.2.1)], bookA g5 x6] := S.mask [false, false, true, true, true, true, true]
                              have S : Sat w0 _ [bookA g5 x6, ddkA g7 D8, diskA g9 D10, twbA A23 c24 y19.2.2.1, stA 48 g22 [(.int .u8 y19.1), (.int .i64 y19.2.1), (.slice A20 (List.length y19.2.2.1) c21), (.int .u64 y19.2.2.2.1), (.int .i64 y19.2.2.2.2.1)]] := S.frontAt 4 rfl
                              have S : Sat w0 _ [stA 48 g22 [(.int .u8 y19.1), (.int .i64 y19.2.1), (.slice A20 (List.length y19.2.2.1) c21), (.int .u64 y19.2.2.2.1), (.int .i64 y19.2.2.2.2.1)], bookA g5 x6, ddkA g7 D8, diskA g9 D10, twbA A23 c24 y19.2.2.1] := S.frontAt 4 rfl
                              have S : Sat w0 _ [twbA A23 c24 y19.2.2.1, stA 48 g22 [(.int .u8 y19.1), (.int .i64 y19.2.1), (.slice A20 (List.length y19.2.2.1) c21), (.int .u64 y19.2.2.2.1), (.int .i64 y19.2.2.2.2.1)], bookA g5 x6, ddkA g7 D8, diskA g9 D10] := S.frontAt 4 rfl
                              have S : Sat w0 _ [diskA g9 D10, twbA A23 c24 y19.2.2.1, stA 48 g22 [(.int .u8 y19.1), (.int .i64 y19.2.1), (.slice A20 (List.length y19.2.2.1) c21), (.int .u64 y19.2.2.2.1), (.int .i64 y19.2.2.2.2.1)], bookA g5 x6, ddkA g7 D8] := S.frontAt 4 rfl
                              have S : Sat w0 _ [ddkA g7 D8, diskA g9 D10, twbA A23 c24 y19.2.2.1, stA 48 g22 [(.int .u8 y19.1), (.int .i64 y19.2.1), (.slice A20 (List.length y19.2.2.1) c21), (.int .u64 y19.2.2.2.1), (.int .i64 y19.2.2.2.2.1)], bookA g5 x6] := S.frontAt 4 rfl
                              exact ⟨g7, D8, g9, D10, x6, fr.sub ⟨rfl, rfl, rfl, rfl, rfl, rfl, rfl, trivial⟩, S, h⟩
                          · cases h
                        · have H := disk_fail_no (keep := y19.2.2.2.1) S (show y19.2.2.2.2.1 < -1 from Int.not_le.1 hc)
                          refine wl_call fr rfl rfl rfl rfl en20 H ?_
                          clear H
                          rintro _ w ⟨rfl, hw⟩
                          subst hw
                          refine ⟨_, rfl, rfl, fun a fr => ?_⟩
                          refine wl_run orc_ok 5 rfl fr fun a fr => ?_
                          refine wpList_nil ?_
                          refine then_n ?_
                          refine wp_seq ?_
                          refine wp_region_lit ?_
                          refine wl_run orc_ok 2 rfl fr fun a fr => ?_
                          refine wl_ldf orc_ok (Sat.stAt S 2 rfl rfl) fr rfl rfl rfl rfl rfl rfl rfl fun a fr => ?_
                          refine wl_run orc_ok 1 rfl fr fun a fr => ?_
                          refine wl_ldf orc_ok (Sat.stAt S 2 rfl rfl) fr rfl rfl rfl rfl rfl rfl rfl fun a fr => ?_
                          have S : Sat w0 _ [ddkA g7 D8, diskA g9 D10, twbA A23 c24 y19.2.2.1, stA 48 g22 [(.int .u8 y19.1), (.int .i64 y19.2.1), (.slice A20 (List.length y19.2.2.1) c21), (.int .u64 y19.2.2.2.1), (.int .i64 y19.2.2.2.2.1)], bookA g5 x6] := S.frontAt 4 rfl
                          refine ite_h h (fun hc h => ?_) (fun hc h => ?_)
                          · cases h
                          · have H := dd_fail_no (fr.int (d := 69) rfl) (fr.int (d := 71) rfl) (show y19.2.2.2.2.1 < -1 from Int.not_le.1 hc) S
                            refine wl_call fr rfl rfl rfl rfl en21 H ?_
                            clear H
                            rintro _ w ⟨rfl, S⟩
                            refine ⟨_, rfl, rfl, fun a fr => ?_⟩
                            refine wl_run orc_ok 5 rfl fr fun a fr => ?_
                            refine wpList_nil ?_
                            refine then_n ?_
                            refine wp_seq ?_
                            refine wp_seq ?_
                            refine wp_region_lit ?_
                            refine wl_run orc_ok 21 rfl fr fun a fr => ?_
                            refine wpList_nil ?_
                            refine then_n ?_
                            refine cw_f fr rfl ?_
                            refine wp_skip ?_
                            refine then_n ?_
                            refine wp_seq ?_
                            refine wp_region_lit ?_
                            refine wl_run orc_ok 8 rfl fr fun a fr => ?_
                            refine wpList_nil ?_
                            refine then_n ?_
                            refine cw_f fr rfl ?_
                            refine wp_skip ?_
                            refine blk_n ?_
                            exact ⟨g7, D8, g9, D10, x6, fr.sub ⟨rfl, rfl, rfl, rfl, rfl, rfl, rfl, trivial⟩, S, h⟩
                · refine wp_region_lit ?_
                  refine wl_run orc_ok 2 rfl fr fun a fr => ?_
                  refine wpList_nil ?_
                  refine then_n ?_
                  refine cw_if fr rfl h (fun h => ?_) (fun h => ?_)
                  · refine wp_seq ?_
                    refine wp_region_sl [.one (0, true, some 109), .one (1, true, some 110), .one (2, true, some 111), .one (3, true, some 112), .one (5, true, some 114), .one (6, true, some 115), .one (7, true, some 116), .one (8, true, some 117), .one (9, true, some 118), .one (4, false, some 113), .one (10, false, some 119), .one (11, true, some 120)]
                      [.one ⟨true, some 109, (Go.Op.move (Go.Operand.tmp 5)), 24, none⟩,
    .one ⟨true, some 110, (Go.Op.fieldAddr 48 (Go.Operand.tmp 11) 1), 0, none⟩,
    .one ⟨true, some 111, (Go.Op.load 3 (Go.Operand.tmp 110)), 3, none⟩,
    .one ⟨true, some 112, (Go.Op.move (Go.Operand.tmp 12)), 45, none⟩,
    .one ⟨true, some 114, (Go.Op.move (Go.Operand.tmp 7)), 28, none⟩,
    .one ⟨true, some 115, (Go.Op.fieldAddr 48 (Go.Operand.tmp 11) 1), 0, none⟩,
    .one ⟨true, some 116, (Go.Op.load 3 (Go.Operand.tmp 115)), 3, none⟩,
    .one ⟨true, some 117, (Go.Op.fieldAddr 48 (Go.Operand.tmp 11) 2), 0, none⟩,
    .one ⟨true, some 118, (Go.Op.load 45 (Go.Operand.tmp 117)), 45, none⟩,
    .one ⟨false, some 113, (Go.Op.call { callee := (Go.Callee.value (Go.Operand.func 12)), args := #[(Go.Operand.tmp 109), (Go.Operand.tmp 111), (Go.Operand.tmp 112)], argTypes := #[24, 3, 45] }), 25, none⟩,
    .one ⟨false, some 119, (Go.Op.call { callee := (Go.Callee.value (Go.Operand.func 13)), args := #[(Go.Operand.tmp 114), (Go.Operand.tmp 116), (Go.Operand.tmp 118)], argTypes := #[28, 3, 45] }), 25, none⟩,
    .one ⟨true, some 120, (Go.Op.binOp Go.BinOp.neq 25 (Go.Operand.tmp 113) (Go.Operand.tmp 119) 25), 4, none⟩]
                      (fun w => Sat w0 w [stA 48 g22 [(.int .u8 y19.1), (.int .i64 y19.2.1), (.slice A20 (List.length y19.2.2.1) c21), (.int .u64 y19.2.2.2.1), (.int .i64 y19.2.2.2.2.1)], bookA g5 x6]) rfl (by kernel_rfl) (by kernel_rfl) (S.drew.mask [false, true, true, false, false]) ?_
                    have S := S.drew
                    refine sl_run orc_ok 2 rfl fr fun a fr => ?_
                    refine sl_ldf orc_ok (fun _ S => Sat.stAt S 0 rfl rfl) fr rfl rfl rfl rfl rfl rfl rfl rfl (Sat.mask S [false, true, true, false, false]) fun a fr => ?_
                    refine sl_run orc_ok 3 rfl fr fun a fr => ?_
                    refine sl_ldf orc_ok (fun _ S => Sat.stAt S 0 rfl rfl) fr rfl rfl rfl rfl rfl rfl rfl rfl (Sat.mask S [false, true, true, false, false]) fun a fr => ?_
                    refine sl_run orc_ok 1 rfl fr fun a fr => ?_
                    refine sl_ldf orc_ok (fun _ S => Sat.stAt S 0 rfl rfl) fr rfl rfl rfl rfl rfl rfl rfl rfl (Sat.mask S [false, true, true, false, false]) fun a fr => ?_
                    have S : Sat w0 _ [diskA g9 D10, twbA A23 c24 y19.2.2.1, stA 48 g22 [(.int .u8 y19.1), (.int .i64 y19.2.1), (.slice A20 (List.length y19.2.2.1) c21), (.int .u64 y19.2.2.2.1), (.int .i64 y19.2.2.2.2.1)], bookA g5 x6, ddkA g7 D8] := S.frontAt 4 rfl
                    obtain ⟨hc, h⟩ := ifs h
                    refine sl_call fr rfl rfl rfl rfl rfl en12 (disk_write S y19.2.1 (Sat.twbAt S 1 rfl) hc) ?_
                    rintro _ w ⟨rfl, hv, S⟩
                    refine ⟨_, rfl, hv, (Sat.mask S [false, false, true, true, false]), fun a fr => ?_⟩
                    obtain ⟨D52, hx, h⟩ := lt_h h
                    rw [hx] at S
                    have S : Sat w0 _ [ddkA g7 D8, diskA g9 D52, twbA A23 c24 y19.2.2.1, stA 48 g22 [(.int .u8 y19.1), (.int .i64 y19.2.1), (.slice A20 (List.length y19.2.2.1) c21), (.int .u64 y19.2.2.2.1), (.int .i64 y19.2.2.2.2.1)], bookA g5 x6] := S.frontAt 4 rfl
                    obtain ⟨hc, h⟩ := ifs h
                    obtain ⟨y53, hn0, h⟩ := lt_h h
                    obtain ⟨D54, hn1, h⟩ := lt_h h
                    have H := dd_write (A := A20) (c := c21) (l := y19.2.2.1) (fr.int (d := 116) rfl) (fr.slice (d := 118) rfl) (fun _ S => Rk.at rq18_2 S) hc S
                    rw [hn0, hn1] at H
                    refine sl_call fr rfl rfl rfl rfl rfl en13 H ?_
                    clear H
                    rintro _ w ⟨rfl, hv, S⟩
                    refine ⟨_, rfl, hv, (Sat.mask S [false, false, false, true, true]), fun a fr => ?_⟩
                    refine sl_run orc_ok 1 rfl fr fun a fr => ?_
                    refine sl_end ?_
                    refine then_n ?_
                    refine cw_if fr rfl h (fun h => ?_) (fun h => ?_)
                    · cases h
                    · refine wp_skip ?_
                      refine blk_n ?_
                      exact ⟨g7, D54, g9, D52, x6, fr.sub ⟨rfl, rfl, rfl, rfl, rfl, rfl, rfl, trivial⟩, S, h⟩
                  · refine wp_seq ?_
                    refine wp_region_lit ?_
                    refine wl_run orc_ok 2 rfl fr fun a fr => ?_
                    refine wpList_nil ?_
                    refine then_n ?_
                    refine cw_if fr rfl h (fun h => ?_) (fun h => ?_)
                    · refine wp_seq ?_
                      refine wp_region_lit ?_
                      refine wl_run orc_ok 1 rfl fr fun a fr => ?_
                      have S : Sat w0 _ [ddkA g7 D8, twbA A23 c24 y19.2.2.1, stA 48 g22 [(.int .u8 y19.1), (.int .i64 y19.2.1), (.slice A20 (List.length y19.2.2.1) c21), (.int .u64 y19.2.2.2.1), (.int .i64 y19.2.2.2.2.1)], bookA g5 x6, diskA g9 D10] := S.frontAt 3 rfl
                      obtain ⟨hc, h⟩ := ifs h
                      obtain ⟨D55, hn0, h⟩ := lt_h h
                      have H := dd_sync hc.1 hc.2 S
                      rw [hn0] at H
                      refine wl_call fr rfl rfl rfl rfl en14 H ?_
                      clear H
                      rintro _ w ⟨rfl, S⟩
                      refine ⟨_, rfl, rfl, fun a fr => ?_⟩
                      refine wpList_nil ?_
                      refine then_n ?_
                      refine wp_seq ?_
                      refine wp_region_lit ?_
                      refine wl_run orc_ok 1 rfl fr fun a fr => ?_
                      have S : Sat w0 _ [diskA g9 D10, ddkA g7 D55, twbA A23 c24 y19.2.2.1, stA 48 g22 [(.int .u8 y19.1), (.int .i64 y19.2.1), (.slice A20 (List.length y19.2.2.1) c21), (.int .u64 y19.2.2.2.1), (.int .i64 y19.2.2.2.2.1)], bookA g5 x6] := S.frontAt 4 rfl
                      refine wl_call fr rfl rfl rfl rfl en15 (disk_sync S) ?_
                      rintro _ w ⟨rfl, S⟩
                      refine ⟨_, rfl, rfl, fun a fr => ?_⟩
                      refine wl_run orc_ok 1 rfl fr fun a fr => ?_
                      refine wpList_nil ?_
                      refine then_n ?_
                      refine cw_f fr rfl ?_
                      refine wp_skip ?_
                      refine blk_n ?_
                      have S : Sat w0 _ [bookA g5 x6, diskA g9 (Dk.sync D10), ddkA g7 D55, twbA A23 c24 y19.2.2.1, stA 48 g22 [(.int .u8 y19.1), (.int .i64 y19.2.1), (.slice A20 (List.length y19.2.2.1) c21), (.int .u64 y19.2.2.2.1), (.int .i64 y19.2.2.2.2.1)]] := S.frontAt 4 rfl
                      have S : Sat w0 _ [stA 48 g22 [(.int .u8 y19.1), (.int .i64 y19.2.1), (.slice A20 (List.length y19.2.2.1) c21), (.int .u64 y19.2.2.2.1), (.int .i64 y19.2.2.2.2.1)], bookA g5 x6, diskA g9 (Dk.sync D10), ddkA g7 D55, twbA A23 c24 y19.2.2.1] := S.frontAt 4 rfl
                      have S : Sat w0 _ [twbA A23 c24 y19.2.2.1, stA 48 g22 [(.int .u8 y19.1), (.int .i64 y19.2.1), (.slice A20 (List.length y19.2.2.1) c21), (.int .u64 y19.2.2.2.1), (.int .i64 y19.2.2.2.2.1)], bookA g5 x6, diskA g9 (Dk.sync D10), ddkA g7 D55] := S.frontAt 4 rfl
                      have S : Sat w0 _ [diskA g9 (Dk.sync D10), twbA A23 c24 y19.2.2.1, stA 48 g22 [(.int .u8 y19.1), (.int .i64 y19.2.1), (.slice A20 (List.length y19.2.2.1) c21), (.int .u64 y19.2.2.2.1), (.int .i64 y19.2.2.2.2.1)], bookA g5 x6, ddkA g7 D55] := S.frontAt 3 rfl
                      have S : Sat w0 _ [ddkA g7 D55, diskA g9 (Dk.sync D10), twbA A23 c24 y19.2.2.1, stA 48 g22 [(.int .u8 y19.1), (.int .i64 y19.2.1), (.slice A20 (List.length y19.2.2.1) c21), (.int .u64 y19.2.2.2.1), (.int .i64 y19.2.2.2.2.1)], bookA g5 x6] := S.frontAt 4 rfl
                      exact ⟨g7, D55, g9, (Dk.sync D10), x6, fr.sub ⟨rfl, rfl, rfl, rfl, rfl, rfl, rfl, trivial⟩, S, h⟩
                    · refine wp_seq ?_
                      refine wp_region_lit ?_
                      refine wl_run orc_ok 2 rfl fr fun a fr => ?_
                      refine wpList_nil ?_
                      refine then_n ?_
                      refine cw_if fr rfl h (fun h => ?_) (fun h => ?_)
                      · refine wp_seq ?_
                        refine wp_region_lit ?_
                        refine wl_run orc_ok 2 rfl fr fun a fr => ?_
                        refine wl_ldf orc_ok (Sat.stAt S 1 rfl rfl) fr rfl rfl rfl rfl rfl rfl rfl fun a fr => ?_
                        have S : Sat w0 _ [diskA g9 D10, twbA A23 c24 y19.2.2.1, stA 48 g22 [(.int .u8 y19.1), (.int .i64 y19.2.1), (.slice A20 (List.length y19.2.2.1) c21), (.int .u64 y19.2.2.2.1), (.int .i64 y19.2.2.2.2.1)], bookA g5 x6, ddkA g7 D8] := S.frontAt 4 rfl
                        refine ite_h h (fun hc h => ?_) (fun hc h => ?_)
                        · obtain ⟨l56, hn0, h⟩ := lt_h h
                          have H := disk_read S hc
                          rw [hn0] at H
                          refine wl_call fr rfl rfl rfl rfl en16 H ?_
                          clear H
                          rintro _ w ⟨A57, c58, rfl, hv, S⟩
                          refine ⟨_, rfl, hv, fun a fr => ?_⟩
                          refine wl_run orc_ok 3 rfl fr fun a fr => ?_
                          refine wl_run orc_ok 2 rfl fr fun a fr => ?_
                          refine wpList_nil ?_
                          refine then_n ?_
                          refine wp_seq ?_
                          refine wp_region_lit ?_
                          refine wl_run orc_ok 2 rfl fr fun a fr => ?_
                          refine wl_ldf orc_ok (Sat.stAt S 3 rfl rfl) fr rfl rfl rfl rfl rfl rfl rfl fun a fr => ?_
                          have S : Sat w0 _ [ddkA g7 D8, ownA .u8 5 A57 c58 l56, diskA g9 D10, twbA A23 c24 y19.2.2.1, stA 48 g22 [(.int .u8 y19.1), (.int .i64 y19.2.1), (.slice A20 (List.length y19.2.2.1) c21), (.int .u64 y19.2.2.2.1), (.int .i64 y19.2.2.2.2.1)], bookA g5 x6] := S.frontAt 5 rfl
                          refine ite_h h (fun hc h => ?_) (fun hc h => ?_)
                          · obtain ⟨hd, h⟩ := ifs h
                            obtain ⟨l59, hn0, h⟩ := lt_h h
                            have H := dd_read hc hd S
                            rw [hn0] at H
                            refine wl_call fr rfl rfl rfl rfl en17 H ?_
                            clear H
                            rintro _ w ⟨A60, c61, rfl, hv, S⟩
                            refine ⟨_, rfl, hv, fun a fr => ?_⟩
                            refine wl_run orc_ok 5 rfl fr fun a fr => ?_
                            refine wpList_nil ?_
                            refine then_n ?_
                            refine wp_seq ?_
                            refine wp_seq ?_
                            refine wp_region_lit ?_
                            refine wl_run orc_ok 6 rfl fr fun a fr => ?_
                            obtain ⟨hc, h⟩ := ifs h
                            obtain ⟨y62, hn0, h⟩ := lt_h h
                            have H := same_call (A := A57) (ca := c58) (a := l56) (B := A60) (cb := c61) (b := l59) (Sat.ownAt S 2 rfl) (Sat.ownAt S 0 rfl) hc S
                            rw [hn0] at H
                            refine wl_call fr rfl rfl rfl rfl en18 H ?_
                            clear H
                            rintro _ w ⟨rfl, S⟩
                            refine ⟨_, rfl, rfl, fun a fr => ?_⟩
                            refine wl_run orc_ok 2 rfl fr fun a fr => ?_
                            refine wpList_nil ?_
                            refine then_n ?_
                            refine cw_if fr rfl h (fun h => ?_) (fun h => ?_)
                            · cases h
                            · refine wp_skip ?_
                              refine then_n ?_
                              refine wp_region_lit ?_
                              refine wl_run orc_ok 1 rfl fr fun a fr => ?_
                              obtain ⟨hc, h⟩ := ifs h
                              have S : Sat w0 _ [bookA g5 x6, ownA .u8 5 A60 c61 l59, ddkA g7 D8, ownA .u8 5 A57 c58 l56, diskA g9 D10, twbA A23 c24 y19.2.2.1, stA 48 g22 [(.int .u8 y19.1), (.int .i64 y19.2.1), (.slice A20 (List.length y19.2.2.1) c21), (.int .u64 y19.2.2.2.1), (.int .i64 y19.2.2.2.2.1)]] := S.frontAt 6 rfl
                              have S : Sat w0 _ [ownA .u8 5 A57 c58 l56, bookA g5 x6, ownA .u8 5 A60 c61 l59, ddkA g7 D8, diskA g9 D10, twbA A23 c24 y19.2.2.1, stA 48 g22 [(.int .u8 y19.1), (.int .i64 y19.2.1), (.slice A20 (List.length y19.2.2.1) c21), (.int .u64 y19.2.2.2.1), (.int .i64 y19.2.2.2.2.1)]] := S.frontAt 3 rfl
                              refine wl_call fr rfl rfl rfl rfl en19 (book_bytes hc S) ?_
                              rintro _ w ⟨rfl, S⟩
                              refine ⟨_, rfl, rfl, fun a fr => ?_⟩
                              refine wpList_nil ?_
                              refine blk_n ?_
                              have S : Sat w0 _ [bookA g5 (x6 + 1), ddkA g7 D8, diskA g9 D10, twbA A23 c24 y19.2.2.1, stA 48 g22 [(.int .u8 y19.1), (.int .i64 y19.2.1), (.slice A20 (List.length y19.2.2.1) c21), (.int .u64 y19.2.2.2.1), (.int .i64 y19.2.2.2.2.1)]] := S.mask [true, false, true, true, true, true]
                              have S : Sat w0 _ [stA 48 g22 [(.int .u8 y19.1), (.int .i64 y19.2.1), (.slice A20 (List.length y19.2.2.1) c21), (.int .u64 y19.2.2.2.1), (.int .i64 y19.2.2.2.2.1)], bookA g5 (x6 + 1), ddkA g7 D8, diskA g9 D10, twbA A23 c24 y19.2.2.1] := S.frontAt 4 rfl
                              have S : Sat w0 _ [twbA A23 c24 y19.2.2.1, stA 48 g22 [(.int .u8 y19.1), (.int .i64 y19.2.1), (.slice A20 (List.length y19.2.2.1) c21), (.int .u64 y19.2.2.2.1), (.int .i64 y19.2.2.2.2.1)], bookA g5 (x6 + 1), ddkA g7 D8, diskA g9 D10] := S.frontAt 4 rfl
                              have S : Sat w0 _ [diskA g9 D10, twbA A23 c24 y19.2.2.1, stA 48 g22 [(.int .u8 y19.1), (.int .i64 y19.2.1), (.slice A20 (List.length y19.2.2.1) c21), (.int .u64 y19.2.2.2.1), (.int .i64 y19.2.2.2.2.1)], bookA g5 (x6 + 1), ddkA g7 D8] := S.frontAt 4 rfl
                              have S : Sat w0 _ [ddkA g7 D8, diskA g9 D10, twbA A23 c24 y19.2.2.1, stA 48 g22 [(.int .u8 y19.1), (.int .i64 y19.2.1), (.slice A20 (List.length y19.2.2.1) c21), (.int .u64 y19.2.2.2.1), (.int .i64 y19.2.2.2.2.1)], bookA g5 (x6 + 1)] := S.frontAt 4 rfl
                              exact ⟨g7, D8, g9, D10, (x6 + 1), fr.sub ⟨rfl, rfl, rfl, rfl, rfl, rfl, rfl, trivial⟩, S, h⟩
                          · cases h
                        · have H := disk_read_no S hc
                          refine wl_call fr rfl rfl rfl rfl en16 H ?_
                          clear H
                          rintro _ w ⟨rfl, S⟩
                          refine ⟨_, rfl, rfl, fun a fr => ?_⟩
                          refine wl_run orc_ok 5 rfl fr fun a fr => ?_
                          refine wpList_nil ?_
                          refine then_n ?_
                          refine wp_seq ?_
                          refine wp_region_lit ?_
                          refine wl_run orc_ok 2 rfl fr fun a fr => ?_
                          refine wl_ldf orc_ok (Sat.stAt S 2 rfl rfl) fr rfl rfl rfl rfl rfl rfl rfl fun a fr => ?_
                          have S : Sat w0 _ [ddkA g7 D8, diskA g9 D10, twbA A23 c24 y19.2.2.1, stA 48 g22 [(.int .u8 y19.1), (.int .i64 y19.2.1), (.slice A20 (List.length y19.2.2.1) c21), (.int .u64 y19.2.2.2.1), (.int .i64 y19.2.2.2.2.1)], bookA g5 x6] := S.frontAt 4 rfl
                          refine ite_h h (fun hc h => ?_) (fun hc h => ?_)
                          · cases h
                          · have H := dd_read_no (fr.int (d := 140) rfl) hc S
                            refine wl_call fr rfl rfl rfl rfl en17 H ?_
                            clear H
                            rintro _ w ⟨rfl, S⟩
                            refine ⟨_, rfl, rfl, fun a fr => ?_⟩
                            refine wl_run orc_ok 5 rfl fr fun a fr => ?_
                            refine wpList_nil ?_
                            refine then_n ?_
                            refine wp_seq ?_
                            refine wp_seq ?_
                            refine wp_region_lit ?_
                            refine wl_run orc_ok 6 rfl fr fun a fr => ?_
                            obtain ⟨hc, h⟩ := ifs h
                            obtain ⟨y66, hn0, h⟩ := lt_h h
                            have H := same_call (A := none) (ca := 0) (a := ([] : List Int)) (B := none) (cb := 0) (b := ([] : List Int)) Rk.nil Rk.nil hc S
                            rw [hn0] at H
                            refine wl_call fr rfl rfl rfl rfl en18 H ?_
                            clear H
                            rintro _ w ⟨rfl, S⟩
                            refine ⟨_, rfl, rfl, fun a fr => ?_⟩
                            refine wl_run orc_ok 2 rfl fr fun a fr => ?_
                            refine wpList_nil ?_
                            refine then_n ?_
                            refine cw_if fr rfl h (fun h => ?_) (fun h => ?_)
                            · cases h
                            · refine wp_skip ?_
                              refine then_n ?_
                              refine wp_region_lit ?_
                              refine wl_run orc_ok 1 rfl fr fun a fr => ?_
                              obtain ⟨hc, h⟩ := ifs h
                              have S : Sat w0 _ [ownA .u8 5 none 0 ([] : List Int), ddkA g7 D8, diskA g9 D10, twbA A23 c24 y19.2.2.1, stA 48 g22 [(.int .u8 y19.1), (.int .i64 y19.2.1), (.slice A20 (List.length y19.2.2.1) c21), (.int .u64 y19.2.2.2.1), (.int .i64 y19.2.2.2.2.1)], bookA g5 x6] := S.nilRow .u8 5
                              have S : Sat w0 _ [bookA g5 x6, ownA .u8 5 none 0 ([] : List Int), ddkA g7 D8, diskA g9 D10, twbA A23 c24 y19.2.2.1, stA 48 g22 [(.int .u8 y19.1), (.int .i64 y19.2.1), (.slice A20 (List.length y19.2.2.1) c21), (.int .u64 y19.2.2.2.1), (.int .i64 y19.2.2.2.2.1)]] := S.frontAt 5 rfl
                              have S : Sat w0 _ [ownA .u8 5 none 0 ([] : List Int), bookA g5 x6, ddkA g7 D8, diskA g9 D10, twbA A23 c24 y19.2.2.1, stA 48 g22 [(.int .u8 y19.1), (.int .i64 y19.2.1), (.slice A20 (List.length y19.2.2.1) c21), (.int .u64 y19.2.2.2.1), (.int .i64 y19.2.2.2.2.1)]] := S.frontAt 1 rfl
                              refine wl_call fr rfl rfl rfl rfl en19 (book_bytes (l := ([] : List Int)) (A := none) (c := 0) hc S) ?_
                              rintro _ w ⟨rfl, S⟩
                              refine ⟨_, rfl, rfl, fun a fr => ?_⟩
                              refine wpList_nil ?_
                              refine blk_n ?_
                              have S : Sat w0 _ [stA 48 g22 [(.int .u8 y19.1), (.int .i64 y19.2.1), (.slice A20 (List.length y19.2.2.1) c21), (.int .u64 y19.2.2.2.1), (.int .i64 y19.2.2.2.2.1)], bookA g5 (x6 + 1), ddkA g7 D8, diskA g9 D10, twbA A23 c24 y19.2.2.1] := S.frontAt 4 rfl
                              have S : Sat w0 _ [twbA A23 c24 y19.2.2.1, stA 48 g22 [(.int .u8 y19.1), (.int .i64 y19.2.1), (.slice A20 (List.length y19.2.2.1) c21), (.int .u64 y19.2.2.2.1), (.int .i64 y19.2.2.2.2.1)], bookA g5 (x6 + 1), ddkA g7 D8, diskA g9 D10] := S.frontAt 4 rfl
                              have S : Sat w0 _ [diskA g9 D10, twbA A23 c24 y19.2.2.1, stA 48 g22 [(.int .u8 y19.1), (.int .i64 y19.2.1), (.slice A20 (List.length y19.2.2.1) c21), (.int .u64 y19.2.2.2.1), (.int .i64 y19.2.2.2.2.1)], bookA g5 (x6 + 1), ddkA g7 D8] := S.frontAt 4 rfl
                              have S : Sat w0 _ [ddkA g7 D8, diskA g9 D10, twbA A23 c24 y19.2.2.1, stA 48 g22 [(.int .u8 y19.1), (.int .i64 y19.2.1), (.slice A20 (List.length y19.2.2.1) c21), (.int .u64 y19.2.2.2.1), (.int .i64 y19.2.2.2.2.1)], bookA g5 (x6 + 1)] := S.frontAt 4 rfl
                              exact ⟨g7, D8, g9, D10, (x6 + 1), fr.sub ⟨rfl, rfl, rfl, rfl, rfl, rfl, rfl, trivial⟩, S, h⟩
                      · refine wp_seq ?_
                        refine wp_region_lit ?_
                        refine wl_run orc_ok 2 rfl fr fun a fr => ?_
                        refine wl_ldf orc_ok (Sat.stAt S 1 rfl rfl) fr rfl rfl rfl rfl rfl rfl rfl fun a fr => ?_
                        refine wl_run orc_ok 1 rfl fr fun a fr => ?_
                        refine wl_ldf orc_ok (Sat.stAt S 1 rfl rfl) fr rfl rfl rfl rfl rfl rfl rfl fun a fr => ?_
                        have S : Sat w0 _ [diskA g9 D10, twbA A23 c24 y19.2.2.1, stA 48 g22 [(.int .u8 y19.1), (.int .i64 y19.2.1), (.slice A20 (List.length y19.2.2.1) c21), (.int .u64 y19.2.2.2.1), (.int .i64 y19.2.2.2.2.1)], bookA g5 x6, ddkA g7 D8] := S.frontAt 4 rfl
                        refine ite_h h (fun hc h => ?_) (fun hc h => ?_)
                        · obtain ⟨hd, h⟩ := ifs h
                          obtain ⟨D67, hn0, h⟩ := lt_h h
                          have H := disk_fail S (fr.int (d := 60) rfl) (fr.int (d := 62) rfl) ⟨hd, hc⟩
                          rw [hn0] at H
                          refine wl_call fr rfl rfl rfl rfl en20 H ?_
                          clear H
                          rintro _ w ⟨g68, rfl, S⟩
                          refine ⟨_, rfl, rfl, fun a fr => ?_⟩
                          refine wl_run orc_ok 5 rfl fr fun a fr => ?_
                          refine wpList_nil ?_
                          refine then_n ?_
                          refine wp_seq ?_
                          refine wp_region_lit ?_
                          refine wl_run orc_ok 2 rfl fr fun a fr => ?_
                          refine wl_ldf orc_ok (Sat.stAt S 3 rfl rfl) fr rfl rfl rfl rfl rfl rfl rfl fun a fr => ?_
                          refine wl_run orc_ok 1 rfl fr fun a fr => ?_
                          refine wl_ldf orc_ok (Sat.stAt S 3 rfl rfl) fr rfl rfl rfl rfl rfl rfl rfl fun a fr => ?_
                          have S : Sat w0 _ [ddkA g7 D8, diskA g68 D67, diskA g9 D10, twbA A23 c24 y19.2.2.1, stA 48 g22 [(.int .u8 y19.1), (.int .i64 y19.2.1), (.slice A20 (List.length y19.2.2.1) c21), (.int .u64 y19.2.2.2.1), (.int .i64 y19.2.2.2.2.1)], bookA g5 x6] := S.frontAt 5 rfl
                          refine ite_h h (fun hc h => ?_) (fun hc h => ?_)
                          · obtain ⟨hd, h⟩ := ifs h
                            obtain ⟨D69, hn0, h⟩ := lt_h h
                            have H := dd_fail (fr.int (d := 69) rfl) (fr.int (d := 71) rfl) hc hd.1 hd.2.1 hd.2.2 S
                            rw [hn0] at H
                            refine wl_call fr rfl rfl rfl rfl en21 H ?_
                            clear H
                            rintro _ w ⟨g70, rfl, S⟩
                            refine ⟨_, rfl, rfl, fun a fr => ?_⟩
                            refine wl_run orc_ok 5 rfl fr fun a fr => ?_
                            refine wpList_nil ?_
                            refine then_n ?_
                            refine wp_seq ?_
                            refine wp_seq ?_
                            refine wp_region_lit ?_
                            refine wl_run orc_ok 17 rfl fr fun a fr => ?_
                            have S : Sat w0 _ [diskA g68 D67, ddkA g70 D69, ddkA g7 D8, diskA g9 D10, twbA A23 c24 y19.2.2.1, stA 48 g22 [(.int .u8 y19.1), (.int .i64 y19.2.1), (.slice A20 (List.length y19.2.2.1) c21), (.int .u64 y19.2.2.2.1), (.int .i64 y19.2.2.2.2.1)], bookA g5 x6] := S.frontAt 2 rfl
                            obtain ⟨hc, h⟩ := ifs h
                            have H := like_call hc.1 hc.2 S
                            refine wl_call fr rfl rfl rfl rfl en22 H ?_
                            clear H
                            rintro _ w ⟨rfl, S⟩
                            refine ⟨_, rfl, rfl, fun a fr => ?_⟩
                            refine wl_run orc_ok 3 rfl fr fun a fr => ?_
                            refine wpList_nil ?_
                            refine then_n ?_
                            refine cw_f fr rfl ?_
                            refine wp_skip ?_
                            refine then_n ?_
                            refine wp_seq ?_
                            refine wp_region_lit ?_
                            refine wl_run orc_ok 4 rfl fr fun a fr => ?_
                            refine wl_ldf orc_ok (Sat.stAt S 5 rfl rfl) fr rfl rfl rfl rfl rfl rfl rfl fun a fr => ?_
                            refine wl_run orc_ok 3 rfl fr fun a fr => ?_
                            refine wpList_nil ?_
                            refine then_n ?_
                            refine cw_if fr rfl h (fun h => ?_) (fun h => ?_)
                            · refine wp_seq ?_
                              refine wp_region_lit ?_
                              refine wl_run orc_ok 1 rfl fr fun a fr => ?_
                              have S : Sat w0 _ [diskA g68 D67, ddkA g70 D69, ddkA g7 D8, twbA A23 c24 y19.2.2.1, stA 48 g22 [(.int .u8 y19.1), (.int .i64 y19.2.1), (.slice A20 (List.length y19.2.2.1) c21), (.int .u64 y19.2.2.2.1), (.int .i64 y19.2.2.2.2.1)], bookA g5 x6] := S.mask [true, true, true, false, true, true, true]
                              refine wl_run orc_ok 1 rfl fr fun a fr => ?_
                              refine wpList_nil ?_
                              refine then_n ?_
                              refine wp_region_lit ?_
                              refine wl_run orc_ok 1 rfl fr fun a fr => ?_
                              have S : Sat w0 _ [diskA g68 D67, ddkA g70 D69, twbA A23 c24 y19.2.2.1, stA 48 g22 [(.int .u8 y19.1), (.int .i64 y19.2.1), (.slice A20 (List.length y19.2.2.1) c21), (.int .u64 y19.2.2.2.1), (.int .i64 y19.2.2.2.2.1)], bookA g5 x6] := S.mask [true, true, false, true, true, true]
                              refine wl_run orc_ok 1 rfl fr fun a fr => ?_
                              refine wpList_nil ?_
                              refine blk_n ?_
                              have S : Sat w0 _ [bookA g5 x6, diskA g68 D67, ddkA g70 D69, twbA A23 c24 y19.2.2.1, stA 48 g22 [(.int .u8 y19.1), (.int .i64 y19.2.1), (.slice A20 (List.length y19.2.2.1) c21), (.int .u64 y19.2.2.2.1), (.int .i64 y19.2.2.2.2.1)]] := S.frontAt 4 rfl
                              have S : Sat w0 _ [stA 48 g22 [(.int .u8 y19.1), (.int .i64 y19.2.1), (.slice A20 (List.length y19.2.2.1) c21), (.int .u64 y19.2.2.2.1), (.int .i64 y19.2.2.2.2.1)], bookA g5 x6, diskA g68 D67, ddkA g70 D69, twbA A23 c24 y19.2.2.1] := S.frontAt 4 rfl
                              have S : Sat w0 _ [twbA A23 c24 y19.2.2.1, stA 48 g22 [(.int .u8 y19.1), (.int .i64 y19.2.1), (.slice A20 (List.length y19.2.2.1) c21), (.int .u64 y19.2.2.2.1), (.int .i64 y19.2.2.2.2.1)], bookA g5 x6, diskA g68 D67, ddkA g70 D69] := S.frontAt 4 rfl
                              have S : Sat w0 _ [diskA g68 D67, twbA A23 c24 y19.2.2.1, stA 48 g22 [(.int .u8 y19.1), (.int .i64 y19.2.1), (.slice A20 (List.length y19.2.2.1) c21), (.int .u64 y19.2.2.2.1), (.int .i64 y19.2.2.2.2.1)], bookA g5 x6, ddkA g70 D69] := S.frontAt 3 rfl
                              have S : Sat w0 _ [ddkA g70 D69, diskA g68 D67, twbA A23 c24 y19.2.2.1, stA 48 g22 [(.int .u8 y19.1), (.int .i64 y19.2.1), (.slice A20 (List.length y19.2.2.1) c21), (.int .u64 y19.2.2.2.1), (.int .i64 y19.2.2.2.2.1)], bookA g5 x6] := S.frontAt 4 rfl
                              exact ⟨g70, D69, g68, D67, x6, fr.sub ⟨rfl, rfl, rfl, rfl, rfl, rfl, rfl, trivial⟩, S, h⟩
                            · refine wp_skip ?_
                              refine blk_n ?_
                              have S : Sat w0 _ [ddkA g7 D8, diskA g9 D10, twbA A23 c24 y19.2.2.1, stA 48 g22 [(.int .u8 y19.1), (.int .i64 y19.2.1), (.slice A20 (List.length y19.2.2.1) c21), (.int .u64 y19.2.2.2.1), (.int .i64 y19.2.2.2.2.1)], bookA g5 x6] := S.mask [false, false, true, true, true, true, true]
                              have S : Sat w0 _ [bookA g5 x6, ddkA g7 D8, diskA g9 D10, twbA A23 c24 y19.2.2.1, stA 48 g22 [(.int .u8 y19.1), (.int .i64 y19.2.1), (.slice A20 (List.length y19.2.2.1) c21), (.int .u64 y19.2.2.2.1), (.int .i64 y19.2.2.2.2.1)]] := S.frontAt 4 rfl
                              have S : Sat w0 _ [stA 48 g22 [(.int .u8 y19.1), (.int .i64 y19.2.1), (.slice A20 (List.length y19.2.2.1) c21), (.int .u64 y19.2.2.2.1), (.int .i64 y19.2.2.2.2.1)], bookA g5 x6, ddkA g7 D8, diskA g9 D10, twbA A23 c24 y19.2.2.1] := S.frontAt 4 rfl
                              have S : Sat w0 _ [twbA A23 c24 y19.2.2.1, stA 48 g22 [(.int .u8 y19.1), (.int .i64 y19.2.1), (.slice A20 (List.length y19.2.2.1) c21), (.int .u64 y19.2.2.2.1), (.int .i64 y19.2.2.2.2.1)], bookA g5 x6, ddkA g7 D8, diskA g9 D10] := S.frontAt 4 rfl
                              have S : Sat w0 _ [diskA g9 D10, twbA A23 c24 y19.2.2.1, stA 48 g22 [(.int .u8 y19.1), (.int .i64 y19.2.1), (.slice A20 (List.length y19.2.2.1) c21), (.int .u64 y19.2.2.2.1), (.int .i64 y19.2.2.2.2.1)], bookA g5 x6, ddkA g7 D8] := S.frontAt 4 rfl
                              have S : Sat w0 _ [ddkA g7 D8, diskA g9 D10, twbA A23 c24 y19.2.2.1, stA 48 g22 [(.int .u8 y19.1), (.int .i64 y19.2.1), (.slice A20 (List.length y19.2.2.1) c21), (.int .u64 y19.2.2.2.1), (.int .i64 y19.2.2.2.2.1)], bookA g5 x6] := S.frontAt 4 rfl
                              exact ⟨g7, D8, g9, D10, x6, fr.sub ⟨rfl, rfl, rfl, rfl, rfl, rfl, rfl, trivial⟩, S, h⟩
                          · cases h
                        · have H := disk_fail_no (keep := y19.2.2.2.1) S (show y19.2.2.2.2.1 < -1 from Int.not_le.1 hc)
                          refine wl_call fr rfl rfl rfl rfl en20 H ?_
                          clear H
                          rintro _ w ⟨rfl, hw⟩
                          subst hw
                          refine ⟨_, rfl, rfl, fun a fr => ?_⟩
                          refine wl_run orc_ok 5 rfl fr fun a fr => ?_
                          refine wpList_nil ?_
                          refine then_n ?_
                          refine wp_seq ?_
                          refine wp_region_lit ?_
                          refine wl_run orc_ok 2 rfl fr fun a fr => ?_
                          refine wl_ldf orc_ok (Sat.stAt S 2 rfl rfl) fr rfl rfl rfl rfl rfl rfl rfl fun a fr => ?_
                          refine wl_run orc_ok 1 rfl fr fun a fr => ?_
                          refine wl_ldf orc_ok (Sat.stAt S 2 rfl rfl) fr rfl rfl rfl rfl rfl rfl rfl fun a fr => ?_
                          have S : Sat w0 _ [ddkA g7 D8, diskA g9 D10, twbA A23 c24 y19.2.2.1, stA 48 g22 [(.int .u8 y19.1), (.int .i64 y19.2.1), (.slice A20 (List.length y19.2.2.1) c21), (.int .u64 y19.2.2.2.1), (.int .i64 y19.2.2.2.2.1)], bookA g5 x6] := S.frontAt 4 rfl
                          refine ite_h h (fun hc h => ?_) (fun hc h => ?_)
                          · cases h
                          · have H := dd_fail_no (fr.int (d := 69) rfl) (fr.int (d := 71) rfl) (show y19.2.2.2.2.1 < -1 from Int.not_le.1 hc) S
                            refine wl_call fr rfl rfl rfl rfl en21 H ?_
                            clear H
                            rintro _ w ⟨rfl, S⟩
                            refine ⟨_, rfl, rfl, fun a fr => ?_⟩
                            refine wl_run orc_ok 5 rfl fr fun a fr => ?_
                            refine wpList_nil ?_
                            refine then_n ?_
                            refine wp_seq ?_
                            refine wp_seq ?_
                            refine wp_region_lit ?_
                            refine wl_run orc_ok 21 rfl fr fun a fr => ?_
                            refine wpList_nil ?_
                            refine then_n ?_
                            refine cw_f fr rfl ?_
                            refine wp_skip ?_
                            refine then_n ?_
                            refine wp_seq ?_
                            refine wp_region_lit ?_
                            refine wl_run orc_ok 8 rfl fr fun a fr => ?_
                            refine wpList_nil ?_
                            refine then_n ?_
                            refine cw_f fr rfl ?_
                            refine wp_skip ?_
                            refine blk_n ?_
                            exact ⟨g7, D8, g9, D10, x6, fr.sub ⟨rfl, rfl, rfl, rfl, rfl, rfl, rfl, trivial⟩, S, h⟩
              · rintro a w ⟨g25, D26, g27, D28, x29, fr, S, h⟩
                rw [SectorsPlay.j1] at h
                refine wp_seq ?_
                refine wp_seq ?_
                refine wp_region_lit ?_
                refine wl_run orc_ok 1 rfl fr fun a fr => ?_
                have S : Sat w0 _ [diskA g27 D28, ddkA g25 D26, twbA A23 c24 y19.2.2.1, stA 48 g22 [(.int .u8 y19.1), (.int .i64 y19.2.1), (.slice A20 (List.length y19.2.2.1) c21), (.int .u64 y19.2.2.2.1), (.int .i64 y19.2.2.2.2.1)], bookA g5 x29] := S.frontAt 1 rfl
                refine wl_call fr rfl rfl rfl rfl en23 (disk_waits S) ?_
                rintro _ w ⟨rfl, hv, hw⟩
                subst hw
                refine ⟨_, rfl, hv, fun a fr => ?_⟩
                refine wl_run orc_ok 1 rfl fr fun a fr => ?_
                have S : Sat w0 _ [ddkA g25 D26, diskA g27 D28, twbA A23 c24 y19.2.2.1, stA 48 g22 [(.int .u8 y19.1), (.int .i64 y19.2.1), (.slice A20 (List.length y19.2.2.1) c21), (.int .u64 y19.2.2.2.1), (.int .i64 y19.2.2.2.2.1)], bookA g5 x29] := S.frontAt 1 rfl
                obtain ⟨y30, hn0, h⟩ := lt_h h
                have H := dd_waits S
                rw [hn0] at H
                refine wl_call fr rfl rfl rfl rfl en24 H ?_
                clear H
                rintro _ w ⟨rfl, hv, S⟩
                refine ⟨_, rfl, hv, fun a fr => ?_⟩
                refine wl_run orc_ok 2 rfl fr fun a fr => ?_
                refine wl_split 160 fr rfl h (fun fr h => ?_) (fun fr h => ?_)
                · cases h
                · refine wl_run orc_ok 2 rfl fr fun a fr => ?_
                  refine wl_ldf orc_ok (Sat.stAt S 3 rfl rfl) fr rfl rfl rfl rfl rfl rfl rfl fun a fr => ?_
                  have S : Sat w0 _ [twbA A23 c24 y19.2.2.1, ddkA g25 D26, diskA g27 D28, stA 48 g22 [(.int .u8 y19.1), (.int .i64 y19.2.1), (.slice A20 (List.length y19.2.2.1) c21), (.int .u64 y19.2.2.2.1), (.int .i64 y19.2.2.2.2.1)], bookA g5 x29] := S.frontAt 2 rfl
                  obtain ⟨hc, h⟩ := ifs h
                  refine wl_call fr rfl rfl rfl rfl en25 (leftb_call (Rk.at rq18_2 S) hc S) ?_
                  rintro _ w ⟨rfl, S⟩
                  refine ⟨_, rfl, rfl, fun a fr => ?_⟩
                  refine wl_run orc_ok 2 rfl fr fun a fr => ?_
                  refine wpList_nil ?_
                  refine then_n ?_
                  refine cw_f fr rfl ?_
                  refine wp_skip ?_
                  refine then_n ?_
                  refine wp_region_lit ?_
                  refine wl_run orc_ok 1 rfl fr fun a fr => ?_
                  obtain ⟨hc, h⟩ := ifs h
                  have S : Sat w0 _ [bookA g5 x29, twbA A23 c24 y19.2.2.1, ddkA g25 D26, diskA g27 D28, stA 48 g22 [(.int .u8 y19.1), (.int .i64 y19.2.1), (.slice A20 (List.length y19.2.2.1) c21), (.int .u64 y19.2.2.2.1), (.int .i64 y19.2.2.2.2.1)]] := S.frontAt 4 rfl
                  have S : Sat w0 _ [twbA A23 c24 y19.2.2.1, bookA g5 x29, ddkA g25 D26, diskA g27 D28, stA 48 g22 [(.int .u8 y19.1), (.int .i64 y19.2.1), (.slice A20 (List.length y19.2.2.1) c21), (.int .u64 y19.2.2.2.1), (.int .i64 y19.2.2.2.2.1)]] := S.frontAt 1 rfl
                  have S := S.twbOwn
                  refine wl_call fr rfl rfl rfl rfl en19 (book_bytes hc S) ?_
                  rintro _ w ⟨rfl, S⟩
                  refine ⟨_, rfl, rfl, fun a fr => ?_⟩
                  refine wpList_nil ?_
                  refine blk_n ?_
                  refine then_n ?_
                  refine wp_region_lit ?_
                  refine wl_run orc_ok 3 rfl fr fun a fr => ?_
                  refine wpList_nil ?_
                  have S : Sat w0 _ [bookA g5 (x29 + 1), ddkA g25 D26, diskA g27 D28] := S.mask [true, true, true, false]
                  have S : Sat w0 _ [diskA g27 D28, bookA g5 (x29 + 1), ddkA g25 D26] := S.frontAt 2 rfl
                  have S : Sat w0 _ [ddkA g25 D26, diskA g27 D28, bookA g5 (x29 + 1)] := S.frontAt 2 rfl
                  have S : Sat w0 _ [bookA g5 (x29 + 1), ddkA g25 D26, diskA g27 D28] := S.frontAt 2 rfl
                  exact ⟨(x29 + 1), g25, D26, g27, D28, (IntKind.wrap .i64 (x11 + (1 : Int))), fr.sub ⟨rfl, rfl, rfl, rfl, rfl, trivial⟩, S, h⟩
            · refine wp_exit ?_
              refine then_e ?_
              refine then_e ?_
              refine blk_y ?_
              refine then_n ?_
              refine wp_seq ?_
              refine wp_region_lit ?_
              refine wl_run orc_ok 2 rfl fr fun a fr => ?_
              have S : Sat w0 _ [ddkA g7 D8, bookA g5 x6, diskA g9 D10] := S.frontAt 1 rfl
              have S : Sat w0 _ [diskA g9 D10, ddkA g7 D8, bookA g5 x6] := S.frontAt 2 rfl
              obtain ⟨hc, h⟩ := ifs h
              have H := like_call hc.1 hc.2 S
              refine wl_call fr rfl rfl rfl rfl en22 H ?_
              clear H
              rintro _ w ⟨rfl, S⟩
              refine ⟨_, rfl, rfl, fun a fr => ?_⟩
              refine wl_run orc_ok 1 rfl fr fun a fr => ?_
              have S : Sat w0 _ [bookA g5 x6, diskA g9 D10, ddkA g7 D8] := S.frontAt 2 rfl
              refine wl_call fr rfl rfl rfl rfl en26 (book_apart S) ?_
              rintro _ w ⟨rfl, S⟩
              refine ⟨_, rfl, rfl, fun a fr => ?_⟩
              refine wl_run orc_ok 2 rfl fr fun a fr => ?_
              refine wpList_nil ?_
              refine then_n ?_
              refine wp_ret ?_
              injection h with h
              subst h
              refine ret1 fr rfl rfl ?_
              exact ⟨rfl, fr.vok (d := 4) rfl, S.mask [false, false]⟩
        · cases h
      · refine wl_call fr rfl rfl rfl rfl en9 (disk_new_no S hc) ?_
        rintro _ w ⟨rfl, S⟩
        refine ⟨_, rfl, rfl, fun a fr => ?_⟩
        refine wl_run orc_ok 5 rfl fr fun a fr => ?_
        refine wpList_nil ?_
        refine then_n ?_
        refine wp_seq ?_
        refine wp_region_lit ?_
        refine wl_run orc_ok 1 rfl fr fun a fr => ?_
        refine ite_h h (fun hc h => ?_) (fun hc h => ?_)
        · cases h
        · have H := dd_new_no (fr.int (d := 29) rfl) hc S
          refine wl_call fr rfl rfl rfl rfl en10 H ?_
          clear H
          rintro _ w ⟨rfl, S⟩
          refine ⟨_, rfl, rfl, fun a fr => ?_⟩
          refine wl_run orc_ok 5 rfl fr fun a fr => ?_
          refine wpList_nil ?_
          refine then_n ?_
          refine wp_seq ?_
          refine wp_seq ?_
          refine wp_region_lit ?_
          refine wl_run orc_ok 3 rfl fr fun a fr => ?_
          refine wpList_nil ?_
          refine then_n ?_
          refine cw_f fr rfl ?_
          refine wp_skip ?_
          refine then_n ?_
          refine wp_seq ?_
          refine wp_seq ?_
          refine wp_region_lit ?_
          refine wl_run orc_ok 2 rfl fr fun a fr => ?_
          refine wpList_nil ?_
          refine then_n ?_
          refine cw_t fr rfl ?_
          refine wp_seq ?_
          refine wp_region_lit ?_
          refine wl_run orc_ok 3 rfl fr fun a fr => ?_
          refine wpList_nil ?_
          refine then_n ?_
          refine wp_ret ?_
          refine then_r ?_
          injection h with h
          subst h
          refine ret1 fr rfl rfl ?_
          exact ⟨rfl, fr.vok (d := 4) rfl, S.mask []⟩
  exact (key w rfl (Sat.start w)).mono fun e w' ⟨h1, h2, h3⟩ => ⟨h1, h2, S.new h3.below⟩
end Go.Proofs.YticnjkdaccacaaaGreatDoor.Pl
end
section
/- Small plain facts. -/
namespace Go.Proofs.YticnjkdaccacaaaGreatDoor.Pl
open Go Go.RowKit Sx Base Own

theorem w64 {x : Int} (h0 : -9223372036854775808 ≤ x) (h1 : x ≤ 9223372036854775807) : IntKind.wrap .i64 x = x := IntWalk.i64_in x ⟨h0, h1⟩
theorem w64s {n : Nat} (h : n ≤ 1000000000000000) : IntKind.wrap .i64 ((n : Int) + (1 : Int)) = ((n + 1 : Nat) : Int) := by rw [w64 (by omega) (by omega)]; omega
theorem wu8 (x : Int) : IntKind.wrap .u8 x = x % 256 := by rw [IntKind.wrap_u8]
theorem tm {x m : Int} (h0 : 0 ≤ x) : Int.tmod x m = x % m := Int.tmod_eq_emod_of_nonneg h0
theorem wf8 {l : List Int} (v : ∀ n ∈ l, (Lit.int .u8 n).wf = true) {i : Nat} (hi : i < l.length) : 0 ≤ l.getD i 0 ∧ l.getD i 0 ≤ 255 := by
  have hm : l.getD i 0 ∈ l := by rw [List.getD_eq_getElem?_getD, List.getElem?_eq_getElem hi]; exact List.getElem_mem hi
  have := v _ hm
  rw [wf_int] at this
  have h1 : IntKind.u8.min = 0 := by decide
  have h2 : IntKind.u8.max = 255 := by decide
  omega
theorem wf16 {l : List Int} (v : ∀ n ∈ l, (Lit.int .u16 n).wf = true) {i : Nat} (hi : i < l.length) : 0 ≤ l.getD i 0 ∧ l.getD i 0 ≤ 65535 := by
  have hm : l.getD i 0 ∈ l := by rw [List.getD_eq_getElem?_getD, List.getElem?_eq_getElem hi]; exact List.getElem_mem hi
  have := v _ hm
  rw [wf_int] at this
  have h1 : IntKind.u16.min = 0 := by decide
  have h2 : IntKind.u16.max = 65535 := by decide
  omega
theorem wfu8 {x : Int} (v : (Lit.int .u8 x).wf = true) : 0 ≤ x ∧ x ≤ 255 := by
  rw [wf_int] at v
  have h1 : IntKind.u8.min = 0 := by decide
  have h2 : IntKind.u8.max = 255 := by decide
  omega
theorem wfu32 {x : Int} (v : (Lit.int .u32 x).wf = true) : 0 ≤ x ∧ x ≤ 4294967295 := by
  rw [wf_int] at v
  have h1 : IntKind.u32.min = 0 := by decide
  have h2 : IntKind.u32.max = 4294967295 := by decide
  omega
theorem wfu64 {x : Int} (v : (Lit.int .u64 x).wf = true) : 0 ≤ x ∧ x ≤ 18446744073709551615 := by
  rw [wf_int] at v
  have h1 : IntKind.u64.min = 0 := by decide
  have h2 : IntKind.u64.max = 18446744073709551615 := by decide
  omega
theorem dt {p : Prop} [Decidable p] (h : p) : decide p = true := by simp [h]
theorem df {p : Prop} [Decidable p] (h : ¬ p) : decide p = false := by simp [h]
theorem ift {ρ : Type} {b : Bool} {x y : ρ} (h : b = true) : (if b = true then x else y) = x := by rw [if_pos h]
theorem iff_ {ρ : Type} {b : Bool} {x y : ρ} (h : b = false) : (if b = true then x else y) = y := by rw [h]; rfl
theorem bne_no {x y : Int} (h : x = y) : (x != y) = false := by subst h; simp
theorem beq_yes {x y : Int} (h : x = y) : (x == y) = true := by subst h; simp
theorem beq_no {x y : Int} (h : x ≠ y) : (x == y) = false := by simpa using h
end Go.Proofs.YticnjkdaccacaaaGreatDoor.Pl
end
section
/- What arguments of any shape read as, and how long what is in them may be. -/
namespace Go.Proofs.YticnjkdaccacaaaGreatDoor.Base
open Go Go.RowKit Go.ChangeShapes Go.WideShapes
namespace Rdr

def smT {α : Type} : α → Prop := fun _ => True
def smL {α : Type} (s : α → Prop) : List α → Prop := fun l => l.length ≤ 140737488351232 ∧ ∀ y ∈ l, s y
def smA {α : Type} (s : α → Prop) : List α → Prop := fun l => ∀ y ∈ l, s y
def smP {α β : Type} (s : α → Prop) (t : β → Prop) : α × β → Prop := fun x => s x.1 ∧ t x.2
def OfS (P : Program) (t : TypeId) {α : Type} (r : Rdr α) (s : α → Prop) : Prop :=
  P.cellsOf t = r.sz ∧ ∀ (H : Type) (enc : TypeId × Value → H) (w : World) (base : Nat) (spare : Nat → Bool) (held : Bool) (fuel : Nat) (cs : List Value) (x : DataW H × List MemPlace),
    DataW.trod enc P w base spare held fuel t cs = some x → ∃ y, r.R w cs y ∧ ((∀ n ∈ x.1.weights P t, n ≤ reachBytes) → s y)
section
variable {P : Program} {t : TypeId}
theorem ofS {α : Type} {r : Rdr α} (h : Of P t r) : OfS P t r smT := ⟨h.1, fun H enc w base spare held fuel cs x hx => by
  obtain ⟨y, hy⟩ := h.2 H enc w base spare held fuel cs x hx
  exact ⟨y, hy, fun _ => trivial⟩⟩
theorem all_mem {H : Type} {e : TypeId} : ∀ {l : List (DataW H)} {d : DataW H}, d ∈ l → ∀ n ∈ d.weights P e, n ∈ DataW.weightsAll P e l := by
  intro l
  induction l with
  | nil => intro d hd; cases hd
  | cons c l ih =>
    intro d hd n hn
    simp only [DataW.weightsAll, List.mem_append]
    rcases List.mem_cons.1 hd with rfl | hd
    · exact .inl hn
    · exact .inr (ih hd n hn)
theorem ofS_sl {α : Type} {r : Rdr α} {s : α → Prop} {e : TypeId} (ht : P.underlying t = some (.slice e)) (hc : P.cellsOf t = 1) (he : OfS P e r s) {B : Nat} (hB : P.bytesOf e = B) (hB0 : 0 < B) : OfS P t (sl r) (smL s) := by
  refine ⟨hc, fun H enc w base spare held fuel cs x h => ?_⟩
  rcases Deep.open_slice ht h with ⟨rfl, _⟩ | ⟨a, len, cap, m, n, D, Pl, rfl, hb, hl, hm, hmm, hxe, hx⟩
  · exact ⟨[], ⟨none, 0, rfl, Nat.le_refl _, Nat.zero_le _, fun h => absurd rfl h⟩, fun _ => ⟨Nat.zero_le _, fun y hy => by cases hy⟩⟩
  · rw [he.1] at hx
    have hlm : len ≤ m := by rw [hmm]; split <;> omega
    have hex : ∀ i, i < len → ∃ y c, w.cells? base (a.add (i * r.sz)) r.sz = some c ∧ r.R w c y ∧ ((∀ n ∈ (D i).weights P e, n ≤ reachBytes) → s y) := by
      intro i hi
      obtain ⟨c, h1, h2⟩ := hx i (by omega)
      obtain ⟨y, hy, hs⟩ := he.2 H enc w base spare held n _ _ h2
      exact ⟨y, c, h1, hy, hs⟩
    obtain ⟨f, hf⟩ : ∃ f : Fin len → α, ∀ i : Fin len, ∃ c, w.cells? base (a.add (i.val * r.sz)) r.sz = some c ∧ r.R w c (f i) ∧ ((∀ n ∈ (D i.val).weights P e, n ≤ reachBytes) → s (f i)) :=
      ⟨fun i => (hex i.val i.isLt).choose, fun i => (hex i.val i.isLt).choose_spec⟩
    refine ⟨List.ofFn f, ⟨some a, cap, by simp, by simp; exact hl, hm, fun hne => ⟨a, rfl, fun hp => ?_, fun i y hy => ?_⟩⟩, fun hw => ⟨?_, fun y hy => ?_⟩⟩
    · have hpos : 0 < len := by
        rcases Nat.eq_zero_or_pos len with h0 | h0
        · subst h0; simp at hne
        · exact h0
      obtain ⟨c, h1, h2, _⟩ := hf ⟨0, hpos⟩
      obtain ⟨_, hlen, hcell⟩ := World.cells?_some h1
      have h3 := hcell 0 (by omega)
      rw [List.getElem?_eq_getElem (by omega)] at h3
      have h4 := World.block_lt_of_cell? w _ h3
      rw [add_block, add_block] at h4
      exact h4
    · have hi : i < len := by
        have := (List.getElem?_eq_some_iff.1 hy).1; simpa using this
      have h2 := (List.getElem?_eq_some_iff.1 hy).2
      rw [List.getElem_ofFn] at h2
      obtain ⟨c, h3, h4, _⟩ := hf ⟨i, hi⟩
      rw [h2] at h4
      refine ⟨c, h4, fun j u hu => ?_⟩
      obtain ⟨_, hlen, hcell⟩ := World.cells?_some h3
      have hj : j < r.sz := by have := (List.getElem?_eq_some_iff.1 hu).1; omega
      have h5 := hcell j hj
      rw [add_add] at h5
      rw [h5]; exact hu
    · rw [List.length_ofFn]
      subst hxe
      have h1 := hw ((((List.range len).map D).length + ((List.range (m - len)).map fun j => D (len + j)).length) * P.bytesOf e) (by simp only [DataW.weights, ht]; exact List.mem_cons_self)
      rw [List.length_map, List.length_range, hB] at h1
      have h2 : len * 1 ≤ (len + ((List.range (m - len)).map fun j => D (len + j)).length) * B := Nat.mul_le_mul (Nat.le_add_right _ _) hB0
      have h3 : reachBytes ≤ 140737488351232 := by decide
      omega
    · obtain ⟨i, hi, rfl⟩ := List.getElem_of_mem hy
      rw [List.length_ofFn] at hi
      rw [List.getElem_ofFn]
      obtain ⟨c, _, _, h4⟩ := hf ⟨i, hi⟩
      refine h4 fun n hn => hw n ?_
      subst hxe
      simp only [DataW.weights, ht]
      exact List.mem_cons_of_mem _ (List.mem_append_left _ (all_mem (List.mem_map.2 ⟨i, List.mem_range.2 hi, rfl⟩) n hn))
/-- A struct's fields, one behind the other. -/
def OfFS (P : Program) (fs : List Field) (off : Nat) {α : Type} (r : Rdr α) (s : α → Prop) : Prop :=
  ∀ (H : Type) (enc : TypeId × Value → H) (w : World) (base : Nat) (spare : Nat → Bool) (held : Bool) (fuel : Nat) (cs : List Value) (xs : List (DataW H × List MemPlace)),
    cs.length = off + r.sz → (fs.mapM fun f => DataW.trod enc P w base spare held fuel f.type ((cs.drop f.offset).take (P.cellsOf f.type))) = some xs → ∃ y, r.R w (cs.drop off) y ∧ ((∀ n ∈ DataW.weightsEach P (fs.map (·.type)) (xs.map (·.1)), n ≤ reachBytes) → s y)
theorem ofFS_nil (off : Nat) : OfFS P [] off unit smT := by
  intro H enc w base spare held fuel cs xs hl _
  exact ⟨(), List.drop_eq_nil_of_le (by rw [hl]; exact Nat.le_refl _), fun _ => trivial⟩
theorem ofFS_cons {α β : Type} {r : Rdr α} {s : Rdr β} {f : Field} {fs : List Field} {off : Nat} {s1 : α → Prop} {s2 : β → Prop} (hf : f.offset = off) (hr : OfS P f.type r s1) (hs : OfFS P fs (off + r.sz) s s2) : OfFS P (f :: fs) off (pair r s) (smP s1 s2) := by
  intro H enc w base spare held fuel cs xs hl h
  have hl' : cs.length = off + (r.sz + s.sz) := hl
  simp only [List.mapM_cons, Option.bind_eq_bind, Option.bind_eq_some_iff] at h
  obtain ⟨x, h1, ys, h2, h3⟩ := h
  injection h3 with h3
  rw [hf, hr.1] at h1
  obtain ⟨a, ha, ha2⟩ := hr.2 H enc w base spare held fuel _ _ h1
  obtain ⟨b, hb, hb2⟩ := hs H enc w base spare held fuel cs ys (by omega) h2
  refine ⟨(a, b), ⟨(cs.drop off).take r.sz, cs.drop (off + r.sz), ?_, ha, hb⟩, fun hw => ⟨ha2 fun n hn => hw n ?_, hb2 fun n hn => hw n ?_⟩⟩
  · rw [← List.drop_drop, List.take_append_drop]
  · rw [← h3]
    simp only [List.map_cons, DataW.weightsEach, List.mem_append]
    exact .inl hn
  · rw [← h3]
    simp only [List.map_cons, DataW.weightsEach, List.mem_append]
    exact .inr hn
theorem ofS_st {α : Type} {r : Rdr α} {s : α → Prop} {fs : Array Field} (ht : P.underlying t = some (.struct fs)) (hc : P.cellsOf t = r.sz) (hF : OfFS P fs.toList 0 r s) : OfS P t r s := by
  refine ⟨hc, fun H enc w base spare held fuel cs x h => ?_⟩
  cases fuel with
  | zero => simp [DataW.trod] at h
  | succ n =>
    unfold DataW.trod at h
    rw [ht] at h
    simp only at h
    split at h
    · rename_i hl
      simp only [Option.map_eq_some_iff] at h
      obtain ⟨xs, hxs, hx⟩ := h
      obtain ⟨y, hy, hy2⟩ := hF H enc w base spare held n cs xs (by rw [hl, hc]; omega) hxs
      refine ⟨y, by simpa using hy, fun hw => hy2 fun k hk => hw k ?_⟩
      rw [← hx]
      simp only [DataW.weights, ht]
      exact hk
    · cases h
/-- A row's argument that is a slice. -/
theorem ofS_slice_arg {α : Type} {r : Rdr α} {s : List α → Prop} {H : Type} {enc : TypeId × Value → H} {w : World} {base : Nat} {spare : Nat → Bool} {held : Bool} {A : Option Addr} {len cap : Nat} {d : DataW H} {ps : List MemPlace} {ts : List TypeId} {ds : List (DataW H)} {j : Nat}
    (hsz : (DataW.weightsEach P ts ds).all (· ≤ reachBytes) = true) (hj : ts[j]? = some t) (hd' : ds[j]? = some d) (h : OfS P t (sl r) s) (hd : DataW.Trod enc P w base spare held t (.slice A len cap) d ps) :
    ∃ l : List α, l.length = len ∧ len ≤ cap ∧ cap ≤ maxLen ∧ Row r w A l ∧ s l := by
  obtain ⟨fuel, hf⟩ := hd
  obtain ⟨l, ⟨A', cap', e, h1, h2, h3⟩, h4⟩ := h.2 H enc w base spare held fuel _ _ hf
  simp only [Value.cells, List.cons.injEq, and_true] at e
  injection e with e1 e2 e3
  subst e1 e2 e3
  exact ⟨l, rfl, h1, h2, h3, h4 fun n hn => of_decide_eq_true (List.all_eq_true.1 hsz n (DataW.weights_mem_each hj hd' n hn))⟩
/-- A row's argument that is an array or a struct. -/
theorem ofS_agg_arg {α : Type} {r : Rdr α} {s : α → Prop} {H : Type} {enc : TypeId × Value → H} {w : World} {base : Nat} {spare : Nat → Bool} {held : Bool} {cs : Array Value} {d : DataW H} {ps : List MemPlace} {ts : List TypeId} {ds : List (DataW H)} {j : Nat}
    (hsz : (DataW.weightsEach P ts ds).all (· ≤ reachBytes) = true) (hj : ts[j]? = some t) (hd' : ds[j]? = some d) (h : OfS P t r s) (hd : DataW.Trod enc P w base spare held t (.agg cs) d ps) :
    ∃ x : α, r.R w cs.toList x ∧ s x := by
  obtain ⟨fuel, hf⟩ := hd
  obtain ⟨y, h1, h2⟩ := h.2 H enc w base spare held fuel _ _ hf
  exact ⟨y, h1, h2 fun n hn => of_decide_eq_true (List.all_eq_true.1 hsz n (DataW.weights_mem_each hj hd' n hn))⟩
end
end Rdr
end Go.Proofs.YticnjkdaccacaaaGreatDoor.Base
end
