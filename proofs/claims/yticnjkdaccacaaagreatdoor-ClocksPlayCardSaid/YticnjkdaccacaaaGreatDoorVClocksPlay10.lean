/- Texts of this work, one behind the other. -/
import Derived.Test.YticnjkdaccacaaaGreatDoorVClocksPlay9
import Derived.Test.YticnjkdaccacaaaGreatDoorProg
import Derived.SizedLaws
section
/- Walks over the program's functions, printed by a program of this work (wip/tools/shal.py): each call does what the plain function says. -/
namespace Go.Proofs.YticnjkdaccacaaaGreatDoor.Pl
open Go Go.RowKit Sx Base Own

def orc : Orc := ⟨[(3, .int .i64), (4, .bool), (5, .int .u8), (44, .struct #[Go.Field.mk "n" 3 0 false "" "concordat/concordatlaw01" 0, Go.Field.mk "bytes" 31 1 false "" "concordat/concordatlaw01" 8, Go.Field.mk "ids" 32 2 false "" "concordat/concordatlaw01" 32, Go.Field.mk "ints" 33 3 false "" "concordat/concordatlaw01" 56, Go.Field.mk "texts" 34 4 false "" "concordat/concordatlaw01" 80, Go.Field.mk "rows" 35 5 false "" "concordat/concordatlaw01" 104, Go.Field.mk "ops" 36 6 false "" "concordat/concordatlaw01" 128, Go.Field.mk "spans" 37 7 false "" "concordat/concordatlaw01" 152, Go.Field.mk "changes" 38 8 false "" "concordat/concordatlaw01" 176, Go.Field.mk "results" 39 9 false "" "concordat/concordatlaw01" 200, Go.Field.mk "msgs" 40 10 false "" "concordat/concordatlaw01" 224, Go.Field.mk "parts" 41 11 false "" "concordat/concordatlaw01" 248, Go.Field.mk "deeds" 42 12 false "" "concordat/concordatlaw01" 272]), (79, .slice 88), (80, .pointer 169), (85, .struct #[Go.Field.mk "l" 83 0 false "" "concordat/concordatref09" 0]), (86, .int .u32), (88, .struct #[Go.Field.mk "Kind" 5 0 false "" "" 0, Go.Field.mk "ID" 86 1 false "" "" 4, Go.Field.mk "Ticks" 3 2 false "" "" 8]), (91, .slice 86), (167, .map 86 3), (169, .struct #[Go.Field.mk "now" 3 0 false "" "concordat/clocks" 0, Go.Field.mk "when" 167 1 false "" "concordat/clocks" 8])],
  [(3, 1), (5, 1), (44, 13), (85, 1), (86, 1), (88, 3), (167, 1)]⟩
theorem orc_ok : orc.Ok Tryz.prog := ⟨⟨Tryz.underlying3, Tryz.underlying4, Tryz.underlying5, Tryz.underlying44, Tryz.underlying79, Tryz.underlying80, Tryz.underlying85, Tryz.underlying86, Tryz.underlying88, Tryz.underlying91, Tryz.underlying167, Tryz.underlying169, trivial⟩, ⟨by kernel_rfl, by kernel_rfl, by kernel_rfl, by kernel_rfl, by kernel_rfl, by kernel_rfl, by kernel_rfl, trivial⟩⟩
theorem en26 : Enters Tryz.prog 26 := fun _ _ => by kernel_rfl
theorem en38 : Enters Tryz.prog 38 := fun _ _ => by kernel_rfl
theorem en39 : Enters Tryz.prog 39 := fun _ _ => by kernel_rfl
theorem en40 : Enters Tryz.prog 40 := fun _ _ => by kernel_rfl
theorem en41 : Enters Tryz.prog 41 := fun _ _ => by kernel_rfl
theorem en42 : Enters Tryz.prog 42 := fun _ _ => by kernel_rfl
theorem en43 : Enters Tryz.prog 43 := fun _ _ => by kernel_rfl
theorem en44 : Enters Tryz.prog 44 := fun _ _ => by kernel_rfl
theorem en45 : Enters Tryz.prog 45 := fun _ _ => by kernel_rfl
theorem en46 : Enters Tryz.prog 46 := fun _ _ => by kernel_rfl
theorem en47 : Enters Tryz.prog 47 := fun _ _ => by kernel_rfl
theorem en48 : Enters Tryz.prog 48 := fun _ _ => by kernel_rfl
theorem en128 : Enters Tryz.prog 128 := fun _ _ => by kernel_rfl
theorem en130 : Enters Tryz.prog 130 := fun _ _ => by kernel_rfl
theorem zero3 : ∀ W, (zeroValue 3).run Tryz.prog W = .ok (.int .i64 0) W := fun _ => by kernel_rfl
theorem zero88 : ∀ W, (zeroValue 88).run Tryz.prog W = .ok (.agg ([Value.int .u8 0, Value.int .u32 0, Value.int .i64 0] : List Value).toArray) W := fun _ => by kernel_rfl
set_option maxRecDepth 100000 in
set_option maxHeartbeats 4000000 in
theorem there.walk (g900 : Nat) (x1000 : Int) (g1001 : Nat) (p1001 : List (Int × Int)) {w0 w : World} {R : List Asn}  (S : Sat w0 w (stA 169 g900 [(.int .i64 x1000), (.map (some g1001))] :: mapA .u32 (Value.int .i64) g1001 p1001 :: R)) {r : Bool × Int × List (Int × Int)} (h : there.f x1000 p1001 = some r) :
    Calls Tryz.prog 128 #[(.pointer (some ⟨g900, 0, none⟩))] w fun e w' => e = .returned (.bool r.1) ∧ vok (.bool r.1) = true ∧ Sat w0 w' (stA 169 g900 [(.int .i64 r.2.1), (.map (some g1001))] :: mapA .u32 (Value.int .i64) g1001 r.2.2 :: R) := by
  unfold there.f at h
  refine calls_start (N := 12) [(.pointer (some ⟨g900, 0, none⟩))] Tryz.func128 rfl rfl rfl (vok_c rfl rfl) fun a fr => ?_
  refine wp_seq ?_
  refine wp_region_lit ?_
  refine wl_run orc_ok 1 rfl fr fun a fr => ?_
  refine wpList_nil ?_
  refine then_n ?_
  refine wp_seq ?_
  refine wp_region_lit ?_
  refine wl_run orc_ok 6 rfl fr fun a fr => ?_
  refine wl_ldf orc_ok (Sat.stAt S 0 rfl rfl) fr rfl rfl rfl rfl rfl rfl rfl fun a fr => ?_
  refine wl_run orc_ok 3 rfl fr fun a fr => ?_
  refine wpList_nil ?_
  refine then_n ?_
  refine wp_ret ?_
  have S : Sat w0 _ (mapA .u32 (Value.int .i64) g1001 p1001 :: stA 169 g900 [(.int .i64 x1000), (.map (some g1001))] :: R) := S.frontAt 1 rfl
  have S : Sat w0 _ (stA 169 g900 [(.int .i64 x1000), (.map (some g1001))] :: mapA .u32 (Value.int .i64) g1001 p1001 :: R) := S.frontAt 1 rfl
  injection h with h
  subst h
  refine ret1 fr rfl rfl ?_
  exact ⟨rfl, fr.vok (d := 2) rfl, S.mask [true, true]⟩
set_option maxRecDepth 100000 in
set_option maxHeartbeats 4000000 in
theorem Set.walk (g900 : Nat) (x1000 : Int) (g1001 : Nat) (p1001 : List (Int × Int)) (a1 : Int) (a2 : Int) {w0 w : World} {R : List Asn} (v1 : (Lit.int .u32 a1).wf = true) (v2 : (Lit.int .i64 a2).wf = true) (S : Sat w0 w (stA 169 g900 [(.int .i64 x1000), (.map (some g1001))] :: mapA .u32 (Value.int .i64) g1001 p1001 :: R)) {r : Int × Int × List (Int × Int)} (h : Set.f x1000 p1001 a1 a2 = some r) :
    Calls Tryz.prog 39 #[(.pointer (some ⟨g900, 0, none⟩)), (.int .u32 a1), (.int .i64 a2)] w fun e w' => e = .returned (.int .i64 r.1) ∧ vok (.int .i64 r.1) = true ∧ Sat w0 w' (stA 169 g900 [(.int .i64 r.2.1), (.map (some g1001))] :: mapA .u32 (Value.int .i64) g1001 r.2.2 :: R) := by
  unfold Set.f at h
  refine calls_start (N := 29) [(.pointer (some ⟨g900, 0, none⟩)), (.int .u32 a1), (.int .i64 a2)] Tryz.func39 rfl rfl rfl (vok_c rfl (vok_c v1 (vok_c v2 rfl))) fun a fr => ?_
  refine wp_seq ?_
  refine wp_region_lit ?_
  refine wl_run orc_ok 1 rfl fr fun a fr => ?_
  refine wpList_nil ?_
  refine then_n ?_
  refine wp_seq ?_
  refine wp_block ?_
  refine wp_seq ?_
  refine wp_region_lit ?_
  refine wl_run orc_ok 1 rfl fr fun a fr => ?_
  have S : Sat w0 _ (mapA .u32 (Value.int .i64) g1001 p1001 :: stA 169 g900 [(.int .i64 x1000), (.map (some g1001))] :: R) := S.frontAt 1 rfl
  have S : Sat w0 _ (stA 169 g900 [(.int .i64 x1000), (.map (some g1001))] :: mapA .u32 (Value.int .i64) g1001 p1001 :: R) := S.frontAt 1 rfl
  obtain ⟨r1, hr, h⟩ := bnd h
  refine wl_call fr rfl rfl rfl rfl en128 (there.walk g900 x1000 g1001 p1001 S hr) ?_
  rintro _ w ⟨rfl, hv, S⟩
  refine ⟨_, rfl, hv, fun a fr => ?_⟩
  refine wl_run orc_ok 2 rfl fr fun a fr => ?_
  refine wpList_nil ?_
  refine then_n ?_
  refine cw_if fr rfl h (fun h => ?_) (fun h => ?_)
  · refine wp_seq ?_
    refine wp_region_lit ?_
    refine wl_run orc_ok 1 rfl fr fun a fr => ?_
    refine wpList_nil ?_
    refine then_n ?_
    refine wp_ret ?_
    refine blk_r ?_
    refine then_r ?_
    have S : Sat w0 _ (mapA .u32 (Value.int .i64) g1001 r1.2.2 :: stA 169 g900 [(.int .i64 r1.2.1), (.map (some g1001))] :: R) := S.frontAt 1 rfl
    have S : Sat w0 _ (stA 169 g900 [(.int .i64 r1.2.1), (.map (some g1001))] :: mapA .u32 (Value.int .i64) g1001 r1.2.2 :: R) := S.frontAt 1 rfl
    injection h with h
    subst h
    refine ret1 fr rfl rfl ?_
    exact ⟨rfl, fr.vok (d := 6) rfl, S.mask [true, true]⟩
  · refine wp_seq ?_
    refine wp_region_lit ?_
    refine wl_run orc_ok 3 rfl fr fun a fr => ?_
    refine wl_split 14 fr rfl h (fun fr h => ?_) (fun fr h => ?_)
    · refine wl_run orc_ok 4 rfl fr fun a fr => ?_
      refine wpList_nil ?_
      refine then_n ?_
      refine cw_t fr rfl ?_
      refine wp_seq ?_
      refine wp_region_lit ?_
      refine wl_run orc_ok 1 rfl fr fun a fr => ?_
      refine wpList_nil ?_
      refine then_n ?_
      refine wp_ret ?_
      refine blk_r ?_
      refine then_r ?_
      have S : Sat w0 _ (mapA .u32 (Value.int .i64) g1001 r1.2.2 :: stA 169 g900 [(.int .i64 r1.2.1), (.map (some g1001))] :: R) := S.frontAt 1 rfl
      have S : Sat w0 _ (stA 169 g900 [(.int .i64 r1.2.1), (.map (some g1001))] :: mapA .u32 (Value.int .i64) g1001 r1.2.2 :: R) := S.frontAt 1 rfl
      injection h with h
      subst h
      refine ret1 fr rfl rfl ?_
      exact ⟨rfl, fr.vok (d := 6) rfl, S.mask [true, true]⟩
    · refine wl_run orc_ok 4 rfl fr fun a fr => ?_
      refine wpList_nil ?_
      refine then_n ?_
      refine cw_if fr rfl h (fun h => ?_) (fun h => ?_)
      · refine wp_seq ?_
        refine wp_region_lit ?_
        refine wl_run orc_ok 1 rfl fr fun a fr => ?_
        refine wpList_nil ?_
        refine then_n ?_
        refine wp_ret ?_
        refine blk_r ?_
        refine then_r ?_
        have S : Sat w0 _ (mapA .u32 (Value.int .i64) g1001 r1.2.2 :: stA 169 g900 [(.int .i64 r1.2.1), (.map (some g1001))] :: R) := S.frontAt 1 rfl
        have S : Sat w0 _ (stA 169 g900 [(.int .i64 r1.2.1), (.map (some g1001))] :: mapA .u32 (Value.int .i64) g1001 r1.2.2 :: R) := S.frontAt 1 rfl
        injection h with h
        subst h
        refine ret1 fr rfl rfl ?_
        exact ⟨rfl, fr.vok (d := 6) rfl, S.mask [true, true]⟩
      · refine wp_skip ?_
        refine blk_n ?_
        refine then_n ?_
        refine wp_seq ?_
        refine wp_region_sl [.one (0, true, some 18), .one (1, true, some 19), .one (2, true, some 20), .one (3, true, some 21), .one (4, true, some 22), .one (5, true, some 23), .one (6, true, some 24), .one (7, true, some 25), .one (8, true, some 26), .one (9, true, some 27), .one (10, true, some 28), .one (11, false, none)]
          [.one ⟨true, some 18, (Go.Op.move (Go.Operand.tmp 0)), 80, none⟩,
    .one ⟨true, some 19, (Go.Op.nilCheck (Go.Operand.tmp 18)), 0, none⟩,
    .one ⟨true, some 20, (Go.Op.fieldAddr 169 (Go.Operand.tmp 19) 1), 0, none⟩,
    .one ⟨true, some 21, (Go.Op.load 167 (Go.Operand.tmp 20)), 167, none⟩,
    .one ⟨true, some 22, (Go.Op.move (Go.Operand.tmp 1)), 86, none⟩,
    .one ⟨true, some 23, (Go.Op.move (Go.Operand.tmp 0)), 80, none⟩,
    .one ⟨true, some 24, (Go.Op.nilCheck (Go.Operand.tmp 23)), 0, none⟩,
    .one ⟨true, some 25, (Go.Op.fieldAddr 169 (Go.Operand.tmp 24) 0), 0, none⟩,
    .one ⟨true, some 26, (Go.Op.load 3 (Go.Operand.tmp 25)), 3, none⟩,
    .one ⟨true, some 27, (Go.Op.move (Go.Operand.tmp 2)), 3, none⟩,
    .one ⟨true, some 28, (Go.Op.binOp Go.BinOp.add 3 (Go.Operand.tmp 26) (Go.Operand.tmp 27) 3), 3, none⟩,
    .one ⟨false, none, (Go.Op.mapUpdate 167 (Go.Operand.tmp 21) (Go.Operand.tmp 22) (Go.Operand.tmp 28)), 0, none⟩]
          (fun w => Sat w0 w (stA 169 g900 [(.int .i64 r1.2.1), (.map (some g1001))] :: R)) rfl (by kernel_rfl) (by kernel_rfl) (S.drew.mask [true, false]) ?_
        have S := S.drew
        refine sl_run orc_ok 3 rfl fr fun a fr => ?_
        refine sl_ldf orc_ok (fun _ S => Sat.stAt S 0 rfl rfl) fr rfl rfl rfl rfl rfl rfl rfl rfl (Sat.mask S [true, false]) fun a fr => ?_
        refine sl_run orc_ok 4 rfl fr fun a fr => ?_
        refine sl_ldf orc_ok (fun _ S => Sat.stAt S 0 rfl rfl) fr rfl rfl rfl rfl rfl rfl rfl rfl (Sat.mask S [true, false]) fun a fr => ?_
        refine sl_run orc_ok 2 rfl fr fun a fr => ?_
        have S : Sat w0 _ (mapA .u32 (Value.int .i64) g1001 r1.2.2 :: stA 169 g900 [(.int .i64 r1.2.1), (.map (some g1001))] :: R) := S.frontAt 1 rfl
        refine sl_up orc_ok (IntKind.wrap .i64 (r1.2.1 + a2)) fr rfl rfl rfl (.inl rfl) rfl rfl rfl rfl rfl S ?_
        intro w S
        refine ⟨(Sat.mask S [false, true]), ?_⟩
        obtain ⟨p2, hx, h⟩ := lt_h h
        rw [hx] at S
        refine sl_end ?_
        refine then_n ?_
        refine wp_seq ?_
        refine wp_region_lit ?_
        refine wl_run orc_ok 1 rfl fr fun a fr => ?_
        refine wpList_nil ?_
        refine then_n ?_
        refine wp_ret ?_
        have S : Sat w0 _ (stA 169 g900 [(.int .i64 r1.2.1), (.map (some g1001))] :: mapA .u32 (Value.int .i64) g1001 p2 :: R) := S.frontAt 1 rfl
        injection h with h
        subst h
        refine ret1 fr rfl rfl ?_
        exact ⟨rfl, fr.vok (d := 6) rfl, S.mask [true, true]⟩
set_option maxRecDepth 100000 in
set_option maxHeartbeats 4000000 in
theorem Clear.walk (g900 : Nat) (x1000 : Int) (g1001 : Nat) (p1001 : List (Int × Int)) (a1 : Int) {w0 w : World} {R : List Asn} (v1 : (Lit.int .u32 a1).wf = true) (S : Sat w0 w (stA 169 g900 [(.int .i64 x1000), (.map (some g1001))] :: mapA .u32 (Value.int .i64) g1001 p1001 :: R)) {r : Int × Int × List (Int × Int)} (h : Clear.f x1000 p1001 a1 = some r) :
    Calls Tryz.prog 41 #[(.pointer (some ⟨g900, 0, none⟩)), (.int .u32 a1)] w fun e w' => e = .returned (.int .i64 r.1) ∧ vok (.int .i64 r.1) = true ∧ Sat w0 w' (stA 169 g900 [(.int .i64 r.2.1), (.map (some g1001))] :: mapA .u32 (Value.int .i64) g1001 r.2.2 :: R) := by
  unfold Clear.f at h
  refine calls_start (N := 26) [(.pointer (some ⟨g900, 0, none⟩)), (.int .u32 a1)] Tryz.func41 rfl rfl rfl (vok_c rfl (vok_c v1 rfl)) fun a fr => ?_
  refine wp_seq ?_
  refine wp_region_lit ?_
  refine wl_run orc_ok 1 rfl fr fun a fr => ?_
  refine wpList_nil ?_
  refine then_n ?_
  refine wp_seq ?_
  refine wp_seq ?_
  refine wp_region_lit ?_
  refine wl_run orc_ok 1 rfl fr fun a fr => ?_
  have S : Sat w0 _ (mapA .u32 (Value.int .i64) g1001 p1001 :: stA 169 g900 [(.int .i64 x1000), (.map (some g1001))] :: R) := S.frontAt 1 rfl
  have S : Sat w0 _ (stA 169 g900 [(.int .i64 x1000), (.map (some g1001))] :: mapA .u32 (Value.int .i64) g1001 p1001 :: R) := S.frontAt 1 rfl
  obtain ⟨r1, hr, h⟩ := bnd h
  refine wl_call fr rfl rfl rfl rfl en128 (there.walk g900 x1000 g1001 p1001 S hr) ?_
  rintro _ w ⟨rfl, hv, S⟩
  refine ⟨_, rfl, hv, fun a fr => ?_⟩
  refine wl_run orc_ok 1 rfl fr fun a fr => ?_
  refine wpList_nil ?_
  refine then_n ?_
  refine cw_if fr rfl h (fun h => ?_) (fun h => ?_)
  · refine wp_seq ?_
    refine wp_region_lit ?_
    refine wl_run orc_ok 1 rfl fr fun a fr => ?_
    refine wpList_nil ?_
    refine then_n ?_
    refine wp_ret ?_
    refine then_r ?_
    have S : Sat w0 _ (mapA .u32 (Value.int .i64) g1001 r1.2.2 :: stA 169 g900 [(.int .i64 r1.2.1), (.map (some g1001))] :: R) := S.frontAt 1 rfl
    have S : Sat w0 _ (stA 169 g900 [(.int .i64 r1.2.1), (.map (some g1001))] :: mapA .u32 (Value.int .i64) g1001 r1.2.2 :: R) := S.frontAt 1 rfl
    injection h with h
    subst h
    refine ret1 fr rfl rfl ?_
    exact ⟨rfl, fr.vok (d := 4) rfl, S.mask [true, true]⟩
  · refine wp_skip ?_
    refine then_n ?_
    refine wp_seq ?_
    refine wp_seq ?_
    refine wp_region_lit ?_
    refine wl_run orc_ok 3 rfl fr fun a fr => ?_
    refine wl_ldf orc_ok (Sat.stAt S 0 rfl rfl) fr rfl rfl rfl rfl rfl rfl rfl fun a fr => ?_
    refine wl_run orc_ok 1 rfl fr fun a fr => ?_
    refine wl_lk2 (f := (Value.int .i64)) orc_ok (0 : Int) zero3 rfl (fun _ => rfl) (Sat.mapAt S 1 rfl) fr rfl rfl rfl rfl rfl rfl rfl rfl fun a fr => ?_
    refine wl_run orc_ok 5 rfl fr fun a fr => ?_
    obtain ⟨y2, hx, h⟩ := lt_h h
    have fr := fr.spell (d := 6) rfl (congrArg Value.bool hx)
    refine wpList_nil ?_
    refine then_n ?_
    refine wp_seq ?_
    refine wp_region_lit ?_
    refine wl_run orc_ok 2 rfl fr fun a fr => ?_
    refine wpList_nil ?_
    refine then_n ?_
    refine cw_if fr rfl h (fun h => ?_) (fun h => ?_)
    · refine wp_seq ?_
      refine wp_region_lit ?_
      refine wl_run orc_ok 1 rfl fr fun a fr => ?_
      refine wpList_nil ?_
      refine then_n ?_
      refine wp_ret ?_
      refine then_r ?_
      have S : Sat w0 _ (mapA .u32 (Value.int .i64) g1001 r1.2.2 :: stA 169 g900 [(.int .i64 r1.2.1), (.map (some g1001))] :: R) := S.frontAt 1 rfl
      have S : Sat w0 _ (stA 169 g900 [(.int .i64 r1.2.1), (.map (some g1001))] :: mapA .u32 (Value.int .i64) g1001 r1.2.2 :: R) := S.frontAt 1 rfl
      injection h with h
      subst h
      refine ret1 fr rfl rfl ?_
      exact ⟨rfl, fr.vok (d := 4) rfl, S.mask [true, true]⟩
    · refine wp_skip ?_
      refine then_n ?_
      refine wp_seq ?_
      refine wp_region_lit ?_
      refine wl_run orc_ok 3 rfl fr fun a fr => ?_
      refine wl_ldf orc_ok (Sat.stAt S 0 rfl rfl) fr rfl rfl rfl rfl rfl rfl rfl fun a fr => ?_
      refine wl_run orc_ok 1 rfl fr fun a fr => ?_
      have S : Sat w0 _ (mapA .u32 (Value.int .i64) g1001 r1.2.2 :: stA 169 g900 [(.int .i64 r1.2.1), (.map (some g1001))] :: R) := S.frontAt 1 rfl
      refine wl_del orc_ok fr rfl rfl rfl rfl rfl rfl rfl rfl S ?_
      intro w S
      obtain ⟨p3, hx, h⟩ := lt_h h
      rw [hx] at S
      refine wpList_nil ?_
      refine then_n ?_
      refine wp_seq ?_
      refine wp_region_lit ?_
      refine wl_run orc_ok 1 rfl fr fun a fr => ?_
      refine wpList_nil ?_
      refine then_n ?_
      refine wp_ret ?_
      have S : Sat w0 _ (stA 169 g900 [(.int .i64 r1.2.1), (.map (some g1001))] :: mapA .u32 (Value.int .i64) g1001 p3 :: R) := S.frontAt 1 rfl
      injection h with h
      subst h
      refine ret1 fr rfl rfl ?_
      exact ⟨rfl, fr.vok (d := 4) rfl, S.mask [true, true]⟩
set_option maxRecDepth 100000 in
set_option maxHeartbeats 4000000 in
theorem Tick.walk (k : Nat) (g900 : Nat) (x1000 : Int) (g1001 : Nat) (p1001 : List (Int × Int)) {w0 w : World} {R : List Asn}  (S : Sat w0 w (stA 169 g900 [(.int .i64 x1000), (.map (some g1001))] :: mapA .u32 (Value.int .i64) g1001 p1001 :: R)) {r : List Int × Int × List (Int × Int)} (h : Tick.f k x1000 p1001 = some r) :
    Calls Tryz.prog 43 #[(.pointer (some ⟨g900, 0, none⟩))] w fun e w' => ∃ A800 : Option Addr, ∃ c800 : Nat, e = .returned (.slice A800 (List.length r.1) c800) ∧ vok (.slice A800 (List.length r.1) c800) = true ∧ Sat w0 w' (ownA .u32 86 A800 c800 r.1 :: stA 169 g900 [(.int .i64 r.2.1), (.map (some g1001))] :: mapA .u32 (Value.int .i64) g1001 r.2.2 :: R) := by
  unfold Tick.f at h
  refine calls_start (N := 31) [(.pointer (some ⟨g900, 0, none⟩))] Tryz.func43 rfl rfl rfl (vok_c rfl rfl) fun a fr => ?_
  refine wp_seq ?_
  refine wp_region_lit ?_
  refine wl_run orc_ok 1 rfl fr fun a fr => ?_
  refine wpList_nil ?_
  refine then_n ?_
  refine wp_seq ?_
  refine wp_seq ?_
  refine wp_region_lit ?_
  refine wl_run orc_ok 1 rfl fr fun a fr => ?_
  have S : Sat w0 _ (mapA .u32 (Value.int .i64) g1001 p1001 :: stA 169 g900 [(.int .i64 x1000), (.map (some g1001))] :: R) := S.frontAt 1 rfl
  have S : Sat w0 _ (stA 169 g900 [(.int .i64 x1000), (.map (some g1001))] :: mapA .u32 (Value.int .i64) g1001 p1001 :: R) := S.frontAt 1 rfl
  obtain ⟨r1, hr, h⟩ := bnd h
  refine wl_call fr rfl rfl rfl rfl en128 (there.walk g900 x1000 g1001 p1001 S hr) ?_
  rintro _ w ⟨rfl, hv, S⟩
  refine ⟨_, rfl, hv, fun a fr => ?_⟩
  refine wl_run orc_ok 1 rfl fr fun a fr => ?_
  refine wpList_nil ?_
  refine then_n ?_
  refine cw_if fr rfl h (fun h => ?_) (fun h => ?_)
  · refine wp_seq ?_
    refine wp_region_lit ?_
    refine wl_run orc_ok 1 rfl fr fun a fr => ?_
    refine wpList_nil ?_
    refine then_n ?_
    refine wp_ret ?_
    refine then_r ?_
    have S : Sat w0 _ (ownA .u32 86 none 0 ([] : List Int) :: stA 169 g900 [(.int .i64 r1.2.1), (.map (some g1001))] :: mapA .u32 (Value.int .i64) g1001 r1.2.2 :: R) := S.nilRow .u32 86
    have S : Sat w0 _ (mapA .u32 (Value.int .i64) g1001 r1.2.2 :: ownA .u32 86 none 0 ([] : List Int) :: stA 169 g900 [(.int .i64 r1.2.1), (.map (some g1001))] :: R) := S.frontAt 2 rfl
    have S : Sat w0 _ (stA 169 g900 [(.int .i64 r1.2.1), (.map (some g1001))] :: mapA .u32 (Value.int .i64) g1001 r1.2.2 :: ownA .u32 86 none 0 ([] : List Int) :: R) := S.frontAt 2 rfl
    have S : Sat w0 _ (ownA .u32 86 none 0 ([] : List Int) :: stA 169 g900 [(.int .i64 r1.2.1), (.map (some g1001))] :: mapA .u32 (Value.int .i64) g1001 r1.2.2 :: R) := S.frontAt 2 rfl
    injection h with h
    subst h
    refine ret1 fr rfl rfl ?_
    exact ⟨none, 0, rfl, fr.vok (d := 2) rfl, S.mask [true, true, true]⟩
  · refine wp_skip ?_
    refine then_n ?_
    refine wp_seq ?_
    refine wp_region_lit ?_
    refine wl_run orc_ok 3 rfl fr fun a fr => ?_
    refine wl_ldf orc_ok (Sat.stAt S 0 rfl rfl) fr rfl rfl rfl rfl rfl rfl rfl fun a fr => ?_
    refine wl_run orc_ok 3 rfl fr fun a fr => ?_
    refine wl_stf (j := 0) orc_ok fr rfl rfl rfl rfl rfl rfl rfl rfl S rfl ?_
    intro w S
    obtain ⟨x2, hx, h⟩ := lt_h h
    have S : Sat w0 w (stA 169 g900 [(.int .i64 (IntKind.wrap .i64 (r1.2.1 + (1 : Int)))), (.map (some g1001))] :: mapA .u32 (Value.int .i64) g1001 r1.2.2 :: R) := S
    rw [hx] at S
    refine wpList_nil ?_
    refine then_n ?_
    refine wp_seq ?_
    refine wp_region_lit ?_
    refine wl_run orc_ok 1 rfl fr fun a fr => ?_
    have S : Sat w0 _ (mapA .u32 (Value.int .i64) g1001 r1.2.2 :: stA 169 g900 [(.int .i64 x2), (.map (some g1001))] :: R) := S.frontAt 1 rfl
    have S : Sat w0 _ (stA 169 g900 [(.int .i64 x2), (.map (some g1001))] :: mapA .u32 (Value.int .i64) g1001 r1.2.2 :: R) := S.frontAt 1 rfl
    obtain ⟨hc, h⟩ := ifs h
    refine wl_call fr rfl rfl rfl rfl en130 (clk_those S hc) ?_
    rintro _ w ⟨A3, c4, rfl, hv, S⟩
    refine ⟨_, rfl, hv, fun a fr => ?_⟩
    obtain ⟨l5, hx, h⟩ := lt_h h
    rw [hx] at S fr
    refine wl_run orc_ok 1 rfl fr fun a fr => ?_
    refine wpList_nil ?_
    refine then_n ?_
    refine wp_seq ?_
    refine wp_seq ?_
    refine wp_region_lit ?_
    refine wl_run orc_ok 3 rfl fr fun a fr => ?_
    refine wpList_nil ?_
    refine then_n ?_
    refine wp_block ?_
    refine cw_loop (fun k1 a w => ∃ p6 : List (Int × Int), ∃ x7 : Int, Fr 31 a [(0, (.pointer (some ⟨g900, 0, none⟩))), (3, (.slice A3 (List.length l5) c4)), (18, (.slice A3 (List.length l5) c4)), (19, (.int .i64 (List.length l5 : Int))), (20, (.int .i64 x7))] ∧ Sat w0 w (ownA .u32 86 A3 c4 l5 :: stA 169 g900 [(.int .i64 x2), (.map (some g1001))] :: mapA .u32 (Value.int .i64) g1001 p6 :: R) ∧ (Tick.l1 k1 l5 x2 p6 x7) = some r) k ⟨r1.2.2, (0 : Int), fr.sub ⟨rfl, rfl, rfl, rfl, rfl, trivial⟩, S, h⟩ ?_ ?_
    · rintro a w ⟨p6, x7, -, -, h⟩
      simp only [Tick.l1] at h
      cases h
    · rintro k1 a w ⟨p6, x7, fr, S, h⟩
      rw [Tick.l1] at h
      refine wp_seq ?_
      refine wp_region_lit ?_
      refine wl_run orc_ok 1 rfl fr fun a fr => ?_
      refine wpList_nil ?_
      refine then_n ?_
      refine wp_seq ?_
      refine cw_if fr rfl h (fun h => ?_) (fun h => ?_)
      · refine wp_skip ?_
        refine then_n ?_
        refine wp_seq ?_
        refine wp_block ?_
        refine wp_seq ?_
        refine wp_region_lit ?_
        obtain ⟨hc, h⟩ := ifs h
        refine wl_ld orc_ok (Sat.ownAt S 0 rfl) fr rfl rfl rfl rfl rfl rfl rfl rfl rfl rfl rfl rfl rfl rfl rfl rfl hc fun a fr => ?_
        refine wl_run orc_ok 1 rfl fr fun a fr => ?_
        obtain ⟨y10, hx, h⟩ := lt_h h
        have fr := fr.spell (d := 5) rfl (congrArg (Value.int .u32) hx)
        refine wpList_nil ?_
        refine then_n ?_
        refine wp_region_lit ?_
        refine wl_run orc_ok 3 rfl fr fun a fr => ?_
        refine wl_ldf orc_ok (Sat.stAt S 1 rfl rfl) fr rfl rfl rfl rfl rfl rfl rfl fun a fr => ?_
        refine wl_run orc_ok 1 rfl fr fun a fr => ?_
        have S : Sat w0 _ (mapA .u32 (Value.int .i64) g1001 p6 :: ownA .u32 86 A3 c4 l5 :: stA 169 g900 [(.int .i64 x2), (.map (some g1001))] :: R) := S.frontAt 2 rfl
        refine wl_del orc_ok fr rfl rfl rfl rfl rfl rfl rfl rfl S ?_
        intro w S
        obtain ⟨p11, hx, h⟩ := lt_h h
        rw [hx] at S
        refine wpList_nil ?_
        refine blk_n ?_
        refine then_n ?_
        refine wp_region_lit ?_
        refine wl_run orc_ok 2 rfl fr fun a fr => ?_
        refine wpList_nil ?_
        have S : Sat w0 _ (stA 169 g900 [(.int .i64 x2), (.map (some g1001))] :: mapA .u32 (Value.int .i64) g1001 p11 :: ownA .u32 86 A3 c4 l5 :: R) := S.frontAt 2 rfl
        have S : Sat w0 _ (ownA .u32 86 A3 c4 l5 :: stA 169 g900 [(.int .i64 x2), (.map (some g1001))] :: mapA .u32 (Value.int .i64) g1001 p11 :: R) := S.frontAt 2 rfl
        exact ⟨p11, (IntKind.wrap .i64 (x7 + (1 : Int))), fr.sub ⟨rfl, rfl, rfl, rfl, rfl, trivial⟩, S, h⟩
      · refine wp_exit ?_
        refine then_e ?_
        refine then_e ?_
        refine blk_y ?_
        refine then_n ?_
        refine wp_seq ?_
        refine wp_region_lit ?_
        refine wl_run orc_ok 2 rfl fr fun a fr => ?_
        refine wpList_nil ?_
        refine then_n ?_
        refine wp_ret ?_
        have S : Sat w0 _ (mapA .u32 (Value.int .i64) g1001 p6 :: ownA .u32 86 A3 c4 l5 :: stA 169 g900 [(.int .i64 x2), (.map (some g1001))] :: R) := S.frontAt 2 rfl
        have S : Sat w0 _ (stA 169 g900 [(.int .i64 x2), (.map (some g1001))] :: mapA .u32 (Value.int .i64) g1001 p6 :: ownA .u32 86 A3 c4 l5 :: R) := S.frontAt 2 rfl
        have S : Sat w0 _ (ownA .u32 86 A3 c4 l5 :: stA 169 g900 [(.int .i64 x2), (.map (some g1001))] :: mapA .u32 (Value.int .i64) g1001 p6 :: R) := S.frontAt 2 rfl
        injection h with h
        subst h
        refine ret1 fr rfl rfl ?_
        exact ⟨A3, c4, rfl, fr.vok (d := 2) rfl, S.mask [true, true, true]⟩
set_option maxRecDepth 100000 in
set_option maxHeartbeats 4000000 in
theorem SameIds.walk (k : Nat) (A0 : Option Addr) (c0 : Nat) (l0 : List Int) (A1 : Option Addr) (c1 : Nat) (l1 : List Int) {w0 w : World} {R : List Asn} (rk0 : Rk .u32 w A0 l0) (m0 : l0.length ≤ c0 ∧ c0 ≤ maxLen) (rk1 : Rk .u32 w A1 l1) (m1 : l1.length ≤ c1 ∧ c1 ≤ maxLen) (S : Sat w0 w R) {r : Bool} (h : SameIds.f k l0 l1 = some r) :
    Calls Tryz.prog 44 #[(.slice A0 (List.length l0) c0), (.slice A1 (List.length l1) c1)] w fun e w' => e = .returned (.bool r) ∧ vok (.bool r) = true ∧ Sat w0 w' R := by
  have key : ∀ w0 : World, w0 = w → Sat w0 w [] → Calls Tryz.prog 44 #[(.slice A0 (List.length l0) c0), (.slice A1 (List.length l1) c1)] w fun e w' => e = .returned (.bool r) ∧ vok (.bool r) = true ∧ Sat w0 w' [] := by
    clear S
    intro w0 hw S
    rw [← hw] at rk0
    rw [← hw] at rk1
    clear hw
    unfold SameIds.f at h
    refine calls_start (N := 26) [(.slice A0 (List.length l0) c0), (.slice A1 (List.length l1) c1)] Tryz.func44 rfl rfl rfl (vok_c (vok_sl m0) (vok_c (vok_sl m1) rfl)) fun a fr => ?_
    refine wp_seq ?_
    refine wp_region_lit ?_
    refine wl_run orc_ok 1 rfl fr fun a fr => ?_
    refine wpList_nil ?_
    refine then_n ?_
    refine wp_seq ?_
    refine wp_seq ?_
    refine wp_region_lit ?_
    refine wl_run orc_ok 5 rfl fr fun a fr => ?_
    refine wpList_nil ?_
    refine then_n ?_
    refine cw_if fr rfl h (fun h => ?_) (fun h => ?_)
    · refine wp_seq ?_
      refine wp_region_lit ?_
      refine wl_run orc_ok 1 rfl fr fun a fr => ?_
      refine wpList_nil ?_
      refine then_n ?_
      refine wp_ret ?_
      refine then_r ?_
      injection h with h
      subst h
      refine ret1 fr rfl rfl ?_
      exact ⟨rfl, fr.vok (d := 4) rfl, S.mask []⟩
    · refine wp_skip ?_
      refine then_n ?_
      refine wp_seq ?_
      refine wp_seq ?_
      refine wp_region_lit ?_
      refine wl_run orc_ok 1 rfl fr fun a fr => ?_
      refine wpList_nil ?_
      refine then_n ?_
      refine wp_block ?_
      refine cw_loop (fun k1 a w => ∃ x1 : Int, Fr 26 a [(0, (.slice A0 (List.length l0) c0)), (1, (.slice A1 (List.length l1) c1)), (5, (.int .i64 x1))] ∧ Sat w0 w [] ∧ (SameIds.l1 k1 l0 l1 x1) = some r) k ⟨(0 : Int), fr.sub ⟨rfl, rfl, rfl, trivial⟩, S, h⟩ ?_ ?_
      · rintro a w ⟨x1, -, -, h⟩
        simp only [SameIds.l1] at h
        cases h
      · rintro k1 a w ⟨x1, fr, S, h⟩
        rw [SameIds.l1] at h
        refine wp_seq ?_
        refine wp_seq ?_
        refine wp_region_lit ?_
        refine wl_run orc_ok 4 rfl fr fun a fr => ?_
        refine wpList_nil ?_
        refine then_n ?_
        refine cw_if fr rfl h (fun h => ?_) (fun h => ?_)
        · refine wp_skip ?_
          refine then_n ?_
          refine wp_seq ?_
          refine wp_block ?_
          refine wp_seq ?_
          refine wp_region_sl [.one (0, true, some 17), .one (1, true, some 18), .one (2, true, some 19), .one (3, true, some 20), .one (4, true, some 21), .one (5, true, some 22), .one (6, true, some 23), .one (7, true, some 24), .one (8, true, some 25)]
            [.one ⟨true, some 17, (Go.Op.move (Go.Operand.tmp 0)), 91, none⟩,
    .one ⟨true, some 18, (Go.Op.move (Go.Operand.tmp 5)), 3, none⟩,
    .one ⟨true, some 19, (Go.Op.indexAddr 91 (Go.Operand.tmp 17) (Go.Operand.tmp 18)), 0, none⟩,
    .one ⟨true, some 20, (Go.Op.load 86 (Go.Operand.tmp 19)), 86, none⟩,
    .one ⟨true, some 21, (Go.Op.move (Go.Operand.tmp 1)), 91, none⟩,
    .one ⟨true, some 22, (Go.Op.move (Go.Operand.tmp 5)), 3, none⟩,
    .one ⟨true, some 23, (Go.Op.indexAddr 91 (Go.Operand.tmp 21) (Go.Operand.tmp 22)), 0, none⟩,
    .one ⟨true, some 24, (Go.Op.load 86 (Go.Operand.tmp 23)), 86, none⟩,
    .one ⟨true, some 25, (Go.Op.binOp Go.BinOp.neq 86 (Go.Operand.tmp 20) (Go.Operand.tmp 24) 86), 4, none⟩]
            (fun w => Sat w0 w []) rfl (by kernel_rfl) (by kernel_rfl) (S.drew.mask []) ?_
          have S := S.drew
          refine sl_run orc_ok 2 rfl fr fun a fr => ?_
          obtain ⟨hc, h⟩ := ifs h
          refine sl_ld orc_ok (fun _ S => Rk.at rk0 S) fr rfl rfl rfl rfl rfl rfl rfl rfl rfl rfl rfl rfl rfl rfl rfl rfl rfl rfl hc (Sat.mask S []) fun a fr => ?_
          refine sl_run orc_ok 2 rfl fr fun a fr => ?_
          obtain ⟨hc, h⟩ := ifs h
          refine sl_ld orc_ok (fun _ S => Rk.at rk1 S) fr rfl rfl rfl rfl rfl rfl rfl rfl rfl rfl rfl rfl rfl rfl rfl rfl rfl rfl hc (Sat.mask S []) fun a fr => ?_
          refine sl_run orc_ok 1 rfl fr fun a fr => ?_
          refine sl_end ?_
          refine then_n ?_
          refine cw_if fr rfl h (fun h => ?_) (fun h => ?_)
          · refine wp_seq ?_
            refine wp_region_lit ?_
            refine wl_run orc_ok 1 rfl fr fun a fr => ?_
            refine wpList_nil ?_
            refine then_n ?_
            refine wp_ret ?_
            refine blk_r ?_
            refine then_r ?_
            refine then_r ?_
            refine blk_r ?_
            refine then_r ?_
            injection h with h
            subst h
            refine ret1 fr rfl rfl ?_
            exact ⟨rfl, fr.vok (d := 4) rfl, S.mask []⟩
          · refine wp_skip ?_
            refine blk_n ?_
            refine then_n ?_
            refine wp_region_lit ?_
            refine wl_run orc_ok 3 rfl fr fun a fr => ?_
            refine wpList_nil ?_
            exact ⟨(IntKind.wrap .i64 (x1 + (1 : Int))), fr.sub ⟨rfl, rfl, rfl, trivial⟩, S, h⟩
        · refine wp_exit ?_
          refine then_e ?_
          refine then_e ?_
          refine blk_y ?_
          refine then_n ?_
          refine wp_seq ?_
          refine wp_region_lit ?_
          refine wl_run orc_ok 1 rfl fr fun a fr => ?_
          refine wpList_nil ?_
          refine then_n ?_
          refine wp_ret ?_
          injection h with h
          subst h
          refine ret1 fr rfl rfl ?_
          exact ⟨rfl, fr.vok (d := 4) rfl, S.mask []⟩
  exact (key w rfl (Sat.start w)).mono fun e w' ⟨h1, h2, h3⟩ => ⟨h1, h2, S.new h3.below⟩
set_option maxRecDepth 100000 in
set_option maxHeartbeats 4000000 in
theorem Left.walk (g900 : Nat) (x1000 : Int) (g1001 : Nat) (p1001 : List (Int × Int)) (a1 : Int) {w0 w : World} {R : List Asn} (v1 : (Lit.int .u32 a1).wf = true) (S : Sat w0 w (stA 169 g900 [(.int .i64 x1000), (.map (some g1001))] :: mapA .u32 (Value.int .i64) g1001 p1001 :: R)) {r : Int × Bool × Int × List (Int × Int)} (h : Left.f x1000 p1001 a1 = some r) :
    Calls Tryz.prog 47 #[(.pointer (some ⟨g900, 0, none⟩)), (.int .u32 a1)] w fun e w' => e = .returned (.tuple #[(.int .i64 r.1), (.bool r.2.1)]) ∧ vok (.tuple #[(.int .i64 r.1), (.bool r.2.1)]) = true ∧ Sat w0 w' (stA 169 g900 [(.int .i64 r.2.2.1), (.map (some g1001))] :: mapA .u32 (Value.int .i64) g1001 r.2.2.2 :: R) := by
  unfold Left.f at h
  refine calls_start (N := 28) [(.pointer (some ⟨g900, 0, none⟩)), (.int .u32 a1)] Tryz.func47 rfl rfl rfl (vok_c rfl (vok_c v1 rfl)) fun a fr => ?_
  refine wp_seq ?_
  refine wp_region_lit ?_
  refine wl_run orc_ok 2 rfl fr fun a fr => ?_
  refine wpList_nil ?_
  refine then_n ?_
  refine wp_seq ?_
  refine wp_seq ?_
  refine wp_region_lit ?_
  refine wl_run orc_ok 1 rfl fr fun a fr => ?_
  have S : Sat w0 _ (mapA .u32 (Value.int .i64) g1001 p1001 :: stA 169 g900 [(.int .i64 x1000), (.map (some g1001))] :: R) := S.frontAt 1 rfl
  have S : Sat w0 _ (stA 169 g900 [(.int .i64 x1000), (.map (some g1001))] :: mapA .u32 (Value.int .i64) g1001 p1001 :: R) := S.frontAt 1 rfl
  obtain ⟨r1, hr, h⟩ := bnd h
  refine wl_call fr rfl rfl rfl rfl en128 (there.walk g900 x1000 g1001 p1001 S hr) ?_
  rintro _ w ⟨rfl, hv, S⟩
  refine ⟨_, rfl, hv, fun a fr => ?_⟩
  refine wl_run orc_ok 1 rfl fr fun a fr => ?_
  refine wpList_nil ?_
  refine then_n ?_
  refine cw_if fr rfl h (fun h => ?_) (fun h => ?_)
  · refine wp_seq ?_
    refine wp_region_lit ?_
    refine wl_run orc_ok 2 rfl fr fun a fr => ?_
    refine wpList_nil ?_
    refine then_n ?_
    refine wp_ret ?_
    refine then_r ?_
    have S : Sat w0 _ (mapA .u32 (Value.int .i64) g1001 r1.2.2 :: stA 169 g900 [(.int .i64 r1.2.1), (.map (some g1001))] :: R) := S.frontAt 1 rfl
    have S : Sat w0 _ (stA 169 g900 [(.int .i64 r1.2.1), (.map (some g1001))] :: mapA .u32 (Value.int .i64) g1001 r1.2.2 :: R) := S.frontAt 1 rfl
    injection h with h
    subst h
    refine ret2 fr rfl rfl rfl ?_
    exact ⟨rfl, vok_tupib fr (d := 4) (e := 5) rfl rfl, S.mask [true, true]⟩
  · refine wp_skip ?_
    refine then_n ?_
    refine wp_seq ?_
    refine wp_region_lit ?_
    refine wl_run orc_ok 3 rfl fr fun a fr => ?_
    refine wl_ldf orc_ok (Sat.stAt S 0 rfl rfl) fr rfl rfl rfl rfl rfl rfl rfl fun a fr => ?_
    refine wl_run orc_ok 1 rfl fr fun a fr => ?_
    refine wl_lk2 (f := (Value.int .i64)) orc_ok (0 : Int) zero3 rfl (fun _ => rfl) (Sat.mapAt S 1 rfl) fr rfl rfl rfl rfl rfl rfl rfl rfl fun a fr => ?_
    refine wl_run orc_ok 4 rfl fr fun a fr => ?_
    obtain ⟨y2, hx, h⟩ := lt_h h
    have fr := fr.spell (d := 6) rfl (congrArg (Value.int .i64) hx)
    refine wl_run orc_ok 1 rfl fr fun a fr => ?_
    obtain ⟨y3, hx, h⟩ := lt_h h
    have fr := fr.spell (d := 7) rfl (congrArg Value.bool hx)
    refine wpList_nil ?_
    refine then_n ?_
    refine wp_seq ?_
    refine wp_seq ?_
    refine wp_region_lit ?_
    refine wl_run orc_ok 2 rfl fr fun a fr => ?_
    refine wpList_nil ?_
    refine then_n ?_
    refine cw_if fr rfl h (fun h => ?_) (fun h => ?_)
    · refine wp_seq ?_
      refine wp_region_lit ?_
      refine wl_run orc_ok 2 rfl fr fun a fr => ?_
      refine wpList_nil ?_
      refine then_n ?_
      refine wp_ret ?_
      refine then_r ?_
      have S : Sat w0 _ (mapA .u32 (Value.int .i64) g1001 r1.2.2 :: stA 169 g900 [(.int .i64 r1.2.1), (.map (some g1001))] :: R) := S.frontAt 1 rfl
      have S : Sat w0 _ (stA 169 g900 [(.int .i64 r1.2.1), (.map (some g1001))] :: mapA .u32 (Value.int .i64) g1001 r1.2.2 :: R) := S.frontAt 1 rfl
      injection h with h
      subst h
      refine ret2 fr rfl rfl rfl ?_
      exact ⟨rfl, vok_tupib fr (d := 4) (e := 5) rfl rfl, S.mask [true, true]⟩
    · refine wp_skip ?_
      refine then_n ?_
      refine wp_seq ?_
      refine wp_region_lit ?_
      refine wl_run orc_ok 4 rfl fr fun a fr => ?_
      refine wl_ldf orc_ok (Sat.stAt S 0 rfl rfl) fr rfl rfl rfl rfl rfl rfl rfl fun a fr => ?_
      refine wl_run orc_ok 2 rfl fr fun a fr => ?_
      obtain ⟨y4, hx, h⟩ := lt_h h
      have fr := fr.spell (d := 4) rfl (congrArg (Value.int .i64) hx)
      refine wl_run orc_ok 1 rfl fr fun a fr => ?_
      refine wpList_nil ?_
      refine then_n ?_
      refine wp_ret ?_
      have S : Sat w0 _ (mapA .u32 (Value.int .i64) g1001 r1.2.2 :: stA 169 g900 [(.int .i64 r1.2.1), (.map (some g1001))] :: R) := S.frontAt 1 rfl
      have S : Sat w0 _ (stA 169 g900 [(.int .i64 r1.2.1), (.map (some g1001))] :: mapA .u32 (Value.int .i64) g1001 r1.2.2 :: R) := S.frontAt 1 rfl
      injection h with h
      subst h
      refine ret2 fr rfl rfl rfl ?_
      exact ⟨rfl, vok_tupib fr (d := 4) (e := 5) rfl rfl, S.mask [true, true]⟩
set_option maxRecDepth 100000 in
set_option maxHeartbeats 4000000 in
theorem ClocksPlay.walk (k : Nat) (A0 : Option Addr) (c0 : Nat) (l0 : List (Int × Int × Int × Unit)) {w0 w : World} {R : List Asn} (rk0 : Rdr.Row (Rdr.pair (Rdr.int .u8) (Rdr.pair (Rdr.int .u32) (Rdr.pair (Rdr.int .i64) Rdr.unit))) w A0 l0) (m0 : l0.length ≤ c0 ∧ c0 ≤ maxLen) (S : Sat w0 w R) {r : Bool} (h : ClocksPlay.f k l0 = some r) :
    Calls Tryz.prog 5 #[(.slice A0 (List.length l0) c0)] w fun e w' => e = .returned (.bool r) ∧ vok (.bool r) = true ∧ Sat w0 w' R := by
  have key : ∀ w0 : World, w0 = w → Sat w0 w [] → Calls Tryz.prog 5 #[(.slice A0 (List.length l0) c0)] w fun e w' => e = .returned (.bool r) ∧ vok (.bool r) = true ∧ Sat w0 w' [] := by
    clear S
    intro w0 hw S
    rw [← hw] at rk0
    clear hw
    unfold ClocksPlay.f at h
    refine calls_start (N := 96) [(.slice A0 (List.length l0) c0)] Tryz.func5 rfl rfl rfl (vok_c (vok_sl m0) rfl) fun a fr => ?_
    refine wp_seq ?_
    refine wp_region_lit ?_
    refine wl_run orc_ok 1 rfl fr fun a fr => ?_
    refine wpList_nil ?_
    refine then_n ?_
    refine wp_seq ?_
    refine wp_seq ?_
    refine wp_region_lit ?_
    refine wl_run orc_ok 3 rfl fr fun a fr => ?_
    refine wpList_nil ?_
    refine then_n ?_
    refine cw_if fr rfl h (fun h => ?_) (fun h => ?_)
    · refine wp_seq ?_
      refine wp_region_lit ?_
      refine wl_run orc_ok 1 rfl fr fun a fr => ?_
      refine wpList_nil ?_
      refine then_n ?_
      refine wp_ret ?_
      refine then_r ?_
      injection h with h
      subst h
      refine ret1 fr rfl rfl ?_
      exact ⟨rfl, fr.vok (d := 2) rfl, S.mask []⟩
    · refine wp_skip ?_
      refine then_n ?_
      refine wp_seq ?_
      refine wp_region_lit ?_
      refine wl_call fr rfl rfl rfl rfl en38 (clk_new S) ?_
      rintro _ w ⟨g2, g1, rfl, S⟩
      refine ⟨_, rfl, rfl, fun a fr => ?_⟩
      refine wl_run orc_ok 1 rfl fr fun a fr => ?_
      refine wpList_nil ?_
      refine then_n ?_
      refine wp_seq ?_
      refine wp_region_lit ?_
      refine wl_build (cs := [Value.slice none 0 0]) (L2 := []) fr rfl rfl rfl rfl (by simp) (by kernel_rfl) rfl fun a fr => ?_
      refine wl_boxs fr rfl rfl rfl rfl rfl rfl S ?_
      intro w g3 S a fr
      have S := S.newClk
      refine wl_run orc_ok 1 rfl fr fun a fr => ?_
      refine wpList_nil ?_
      refine then_n ?_
      refine wp_seq ?_
      refine wp_seq ?_
      refine wp_region_lit ?_
      refine wl_run orc_ok 2 rfl fr fun a fr => ?_
      refine wpList_nil ?_
      refine then_n ?_
      refine cw_f fr rfl ?_
      refine wp_skip ?_
      refine then_n ?_
      refine wp_seq ?_
      refine wp_region_lit ?_
      refine wl_build (cs := (Value.int .i64 0 :: List.replicate 12 (Value.slice none 0 0))) (L2 := []) fr rfl rfl rfl rfl (by simp) (by kernel_rfl) rfl fun a fr => ?_
      refine wl_allocg fr rfl rfl rfl rfl zeroBook rfl S ?_
      intro w g4 S a fr
      refine wl_stg orc_ok (cs := (Value.int .i64 0 :: List.replicate 12 (Value.slice none 0 0))) (vs := (Value.int .i64 0 :: List.replicate 12 (Value.slice none 0 0))) fr rfl rfl rfl rfl rfl rfl rfl rfl S ?_
      intro w S
      have S := S.newBook
      refine wpList_nil ?_
      refine then_n ?_
      refine wp_seq ?_
      refine wp_seq ?_
      refine wp_region_lit ?_
      refine wl_run orc_ok 1 rfl fr fun a fr => ?_
      refine wpList_nil ?_
      refine then_n ?_
      refine wp_block ?_
      refine cw_loop (fun k1 a w => ∃ x5 : Int, ∃ D6 : List (Int × Int), ∃ x7 : Int, ∃ p8 : List (Int × Int), ∃ x9 : Int, Fr 96 a [(0, (.slice A0 (List.length l0) c0)), (3, (.pointer (some ⟨g2, 0, none⟩))), (4, (.pointer (some ⟨g3, 0, none⟩))), (5, (.pointer (some ⟨g4, 0, none⟩))), (6, (.int .i64 x9))] ∧ Sat w0 w [bookA g4 x5, rclkA g3 D6, stA 169 g2 [(.int .i64 x7), (.map (some g1))], mapA .u32 (Value.int .i64) g1 p8] ∧ (ClocksPlay.l1 k1 l0 x5 D6 x7 p8 x9) = some r) k ⟨(0 : Int), ([] : List (Int × Int)), (0 : Int), ([] : List (Int × Int)), (0 : Int), fr.sub ⟨rfl, rfl, rfl, rfl, rfl, trivial⟩, S, h⟩ ?_ ?_
      · rintro a w ⟨x5, D6, x7, p8, x9, -, -, h⟩
        simp only [ClocksPlay.l1] at h
        cases h
      · rintro k1 a w ⟨x5, D6, x7, p8, x9, fr, S, h⟩
        rw [ClocksPlay.l1] at h
        refine wp_seq ?_
        refine wp_seq ?_
        refine wp_region_lit ?_
        refine wl_run orc_ok 4 rfl fr fun a fr => ?_
        refine wpList_nil ?_
        refine then_n ?_
        refine cw_if fr rfl h (fun h => ?_) (fun h => ?_)
        · refine wp_skip ?_
          refine then_n ?_
          refine wp_seq ?_
          refine wp_block ?_
          refine wp_seq ?_
          refine wp_region_lit ?_
          refine wl_run orc_ok 2 rfl fr fun a fr => ?_
          obtain ⟨hc, h⟩ := ifs h
          obtain ⟨cs15, rq15, cq15⟩ := rs_get rk0 hc
          obtain ⟨y16, hx, h⟩ := lt_h h
          rw [hx] at rq15
          obtain ⟨pq15_0, qq15_0, eq15_0, fq15_0, gq15_0⟩ := rq15
          obtain ⟨zq15_0, vq15_0⟩ := fq15_0
          obtain ⟨pq15_1, qq15_1, eq15_1, fq15_1, gq15_1⟩ := gq15_0
          obtain ⟨zq15_1, vq15_1⟩ := fq15_1
          obtain ⟨pq15_2, qq15_2, eq15_2, fq15_2, gq15_2⟩ := gq15_1
          obtain ⟨zq15_2, vq15_2⟩ := fq15_2
          have uq15 : qq15_2 = [] := gq15_2
          have ec15 : cs15 = [(.int .u8 y16.1), (.int .u32 y16.2.1), (.int .i64 y16.2.2.1)] := by rw [eq15_0, zq15_0, eq15_1, zq15_1, eq15_2, zq15_2, uq15]; rfl
          rw [ec15] at cq15
          refine wl_ldrs orc_ok (i := x9) (z := 3) (cq15.imp fun _ h => ⟨h.1, fun j u hu => RR.cellAt S.below (h.2 j u hu)⟩) (vok1_ag (vok1_c (v := (.int .u8 y16.1)) vq15_0 (vok1_c (v := (.int .u32 y16.2.1)) vq15_1 (vok1_c (v := (.int .i64 y16.2.2.1)) vq15_2 rfl)))) fr rfl rfl rfl rfl rfl rfl rfl rfl rfl rfl rfl rfl rfl rfl rfl rfl hc fun a fr => ?_
          refine wl_allocg fr rfl rfl rfl rfl zero88 rfl S ?_
          intro w g17 S a fr
          refine wl_stu orc_ok (cs := [Value.int .u8 0, Value.int .u32 0, Value.int .i64 0]) (vs := [(.int .u8 y16.1), (.int .u32 y16.2.1), (.int .i64 y16.2.2.1)]) fr rfl rfl rfl rfl rfl rfl rfl rfl (by simp only [List.all_cons, List.all_nil, Bool.and_true, Bool.and_eq_true]; exact ⟨vq15_0, vq15_1, vq15_2⟩) S ?_
          intro w S
          refine wpList_nil ?_
          refine then_n ?_
          refine cw_cut (fun a w => ∃ D18 : List (Int × Int), ∃ x19 : Int, ∃ p20 : List (Int × Int), ∃ x21 : Int, Fr 96 a [(0, (.slice A0 (List.length l0) c0)), (3, (.pointer (some ⟨g2, 0, none⟩))), (4, (.pointer (some ⟨g3, 0, none⟩))), (5, (.pointer (some ⟨g4, 0, none⟩))), (6, (.int .i64 x9)), (7, (.pointer (some ⟨g17, 0, none⟩)))] ∧ Sat w0 w [rclkA g3 D18, stA 169 g2 [(.int .i64 x19), (.map (some g1))], mapA .u32 (Value.int .i64) g1 p20, stA 88 g17 [(.int .u8 y16.1), (.int .u32 y16.2.1), (.int .i64 y16.2.2.1)], bookA g4 x21] ∧ (ClocksPlay.j1 (ClocksPlay.l1 k1 l0) y16 x9 D18 x19 p20 x21) = some r) ?_ ?_
          · refine wp_seq ?_
            refine wp_region_lit ?_
            refine wl_run orc_ok 1 rfl fr fun a fr => ?_
            refine wl_ldf orc_ok (Sat.stAt S 0 rfl rfl) fr rfl rfl rfl rfl rfl rfl rfl fun a fr => ?_
            refine wl_run orc_ok 1 rfl fr fun a fr => ?_
            refine wpList_nil ?_
            refine then_n ?_
            refine wp_block ?_
            refine wp_seq ?_
            refine wp_seq ?_
            refine wp_region_lit ?_
            refine wl_run orc_ok 2 rfl fr fun a fr => ?_
            refine wpList_nil ?_
            refine then_n ?_
            refine cw_if fr rfl h (fun h => ?_) (fun h => ?_)
            · refine wp_skip ?_
              refine then_n ?_
              refine cw_if fr rfl h (fun h => ?_) (fun h => ?_)
              · refine wp_seq ?_
                refine wp_region_sl [.one (0, true, some 47), .one (1, true, some 48), .one (2, true, some 49), .one (3, true, some 50), .one (4, true, some 51), .one (6, true, some 53), .one (7, true, some 54), .one (8, true, some 55), .one (9, true, some 56), .one (10, true, some 57), .one (5, false, some 52), .one (11, false, some 58), .one (12, true, some 59)]
                  [.one ⟨true, some 47, (Go.Op.move (Go.Operand.tmp 3)), 80, none⟩,
    .one ⟨true, some 48, (Go.Op.fieldAddr 88 (Go.Operand.tmp 7) 1), 0, none⟩,
    .one ⟨true, some 49, (Go.Op.load 86 (Go.Operand.tmp 48)), 86, none⟩,
    .one ⟨true, some 50, (Go.Op.fieldAddr 88 (Go.Operand.tmp 7) 2), 0, none⟩,
    .one ⟨true, some 51, (Go.Op.load 3 (Go.Operand.tmp 50)), 3, none⟩,
    .one ⟨true, some 53, (Go.Op.move (Go.Operand.tmp 4)), 82, none⟩,
    .one ⟨true, some 54, (Go.Op.fieldAddr 88 (Go.Operand.tmp 7) 1), 0, none⟩,
    .one ⟨true, some 55, (Go.Op.load 86 (Go.Operand.tmp 54)), 86, none⟩,
    .one ⟨true, some 56, (Go.Op.fieldAddr 88 (Go.Operand.tmp 7) 2), 0, none⟩,
    .one ⟨true, some 57, (Go.Op.load 3 (Go.Operand.tmp 56)), 3, none⟩,
    .one ⟨false, some 52, (Go.Op.call { callee := (Go.Callee.value (Go.Operand.func 39)), args := #[(Go.Operand.tmp 47), (Go.Operand.tmp 49), (Go.Operand.tmp 51)], argTypes := #[80, 86, 3] }), 25, none⟩,
    .one ⟨false, some 58, (Go.Op.call { callee := (Go.Callee.value (Go.Operand.func 40)), args := #[(Go.Operand.tmp 53), (Go.Operand.tmp 55), (Go.Operand.tmp 57)], argTypes := #[82, 86, 3] }), 25, none⟩,
    .one ⟨true, some 59, (Go.Op.binOp Go.BinOp.neq 25 (Go.Operand.tmp 52) (Go.Operand.tmp 58) 25), 4, none⟩]
                  (fun w => Sat w0 w [stA 88 g17 [(.int .u8 y16.1), (.int .u32 y16.2.1), (.int .i64 y16.2.2.1)], bookA g4 x5]) rfl (by kernel_rfl) (by kernel_rfl) (S.drew.mask [true, true, false, false, false]) ?_
                have S := S.drew
                refine sl_run orc_ok 2 rfl fr fun a fr => ?_
                refine sl_ldf orc_ok (fun _ S => Sat.stAt S 0 rfl rfl) fr rfl rfl rfl rfl rfl rfl rfl rfl (Sat.mask S [true, true, false, false, false]) fun a fr => ?_
                refine sl_run orc_ok 1 rfl fr fun a fr => ?_
                refine sl_ldf orc_ok (fun _ S => Sat.stAt S 0 rfl rfl) fr rfl rfl rfl rfl rfl rfl rfl rfl (Sat.mask S [true, true, false, false, false]) fun a fr => ?_
                refine sl_run orc_ok 2 rfl fr fun a fr => ?_
                refine sl_ldf orc_ok (fun _ S => Sat.stAt S 0 rfl rfl) fr rfl rfl rfl rfl rfl rfl rfl rfl (Sat.mask S [true, true, false, false, false]) fun a fr => ?_
                refine sl_run orc_ok 1 rfl fr fun a fr => ?_
                refine sl_ldf orc_ok (fun _ S => Sat.stAt S 0 rfl rfl) fr rfl rfl rfl rfl rfl rfl rfl rfl (Sat.mask S [true, true, false, false, false]) fun a fr => ?_
                have S : Sat w0 _ [mapA .u32 (Value.int .i64) g1 p8, stA 88 g17 [(.int .u8 y16.1), (.int .u32 y16.2.1), (.int .i64 y16.2.2.1)], bookA g4 x5, rclkA g3 D6, stA 169 g2 [(.int .i64 x7), (.map (some g1))]] := S.frontAt 4 rfl
                have S : Sat w0 _ [stA 169 g2 [(.int .i64 x7), (.map (some g1))], mapA .u32 (Value.int .i64) g1 p8, stA 88 g17 [(.int .u8 y16.1), (.int .u32 y16.2.1), (.int .i64 y16.2.2.1)], bookA g4 x5, rclkA g3 D6] := S.frontAt 4 rfl
                obtain ⟨r25, hr, h⟩ := bnd h
                refine sl_call fr rfl rfl rfl rfl rfl en39 (Set.walk g2 x7 g1 p8 y16.2.1 y16.2.2.1 (fr.int (d := 49) rfl) (fr.int (d := 51) rfl) S hr) ?_
                rintro _ w ⟨rfl, hv, S⟩
                refine ⟨_, rfl, hv, (Sat.mask S [false, false, true, true, false]), fun a fr => ?_⟩
                have S : Sat w0 _ [rclkA g3 D6, stA 169 g2 [(.int .i64 r25.2.1), (.map (some g1))], mapA .u32 (Value.int .i64) g1 r25.2.2, stA 88 g17 [(.int .u8 y16.1), (.int .u32 y16.2.1), (.int .i64 y16.2.2.1)], bookA g4 x5] := S.frontAt 4 rfl
                obtain ⟨hc, h⟩ := ifs h
                obtain ⟨y26, hn0, h⟩ := lt_h h
                obtain ⟨D27, hn1, h⟩ := lt_h h
                have H := clk_set (fr.int (d := 55) rfl) (fr.int (d := 57) rfl) hc S
                rw [hn0, hn1] at H
                refine sl_call fr rfl rfl rfl rfl rfl en40 H ?_
                clear H
                rintro _ w ⟨rfl, hv, S⟩
                refine ⟨_, rfl, hv, (Sat.mask S [false, false, false, true, true]), fun a fr => ?_⟩
                refine sl_run orc_ok 1 rfl fr fun a fr => ?_
                refine sl_end ?_
                refine then_n ?_
                refine cw_if fr rfl h (fun h => ?_) (fun h => ?_)
                · cases h
                · refine wp_skip ?_
                  refine blk_n ?_
                  exact ⟨D27, r25.2.1, r25.2.2, x5, fr.sub ⟨rfl, rfl, rfl, rfl, rfl, rfl, trivial⟩, S, h⟩
              · refine wp_seq ?_
                refine wp_region_lit ?_
                refine wl_run orc_ok 2 rfl fr fun a fr => ?_
                refine wpList_nil ?_
                refine then_n ?_
                refine cw_if fr rfl h (fun h => ?_) (fun h => ?_)
                · refine wp_seq ?_
                  refine wp_region_sl [.one (0, true, some 62), .one (1, true, some 63), .one (2, true, some 64), .one (4, true, some 66), .one (5, true, some 67), .one (6, true, some 68), .one (3, false, some 65), .one (7, false, some 69), .one (8, true, some 70)]
                    [.one ⟨true, some 62, (Go.Op.move (Go.Operand.tmp 3)), 80, none⟩,
    .one ⟨true, some 63, (Go.Op.fieldAddr 88 (Go.Operand.tmp 7) 1), 0, none⟩,
    .one ⟨true, some 64, (Go.Op.load 86 (Go.Operand.tmp 63)), 86, none⟩,
    .one ⟨true, some 66, (Go.Op.move (Go.Operand.tmp 4)), 82, none⟩,
    .one ⟨true, some 67, (Go.Op.fieldAddr 88 (Go.Operand.tmp 7) 1), 0, none⟩,
    .one ⟨true, some 68, (Go.Op.load 86 (Go.Operand.tmp 67)), 86, none⟩,
    .one ⟨false, some 65, (Go.Op.call { callee := (Go.Callee.value (Go.Operand.func 41)), args := #[(Go.Operand.tmp 62), (Go.Operand.tmp 64)], argTypes := #[80, 86] }), 25, none⟩,
    .one ⟨false, some 69, (Go.Op.call { callee := (Go.Callee.value (Go.Operand.func 42)), args := #[(Go.Operand.tmp 66), (Go.Operand.tmp 68)], argTypes := #[82, 86] }), 25, none⟩,
    .one ⟨true, some 70, (Go.Op.binOp Go.BinOp.neq 25 (Go.Operand.tmp 65) (Go.Operand.tmp 69) 25), 4, none⟩]
                    (fun w => Sat w0 w [stA 88 g17 [(.int .u8 y16.1), (.int .u32 y16.2.1), (.int .i64 y16.2.2.1)], bookA g4 x5]) rfl (by kernel_rfl) (by kernel_rfl) (S.drew.mask [true, true, false, false, false]) ?_
                  have S := S.drew
                  refine sl_run orc_ok 2 rfl fr fun a fr => ?_
                  refine sl_ldf orc_ok (fun _ S => Sat.stAt S 0 rfl rfl) fr rfl rfl rfl rfl rfl rfl rfl rfl (Sat.mask S [true, true, false, false, false]) fun a fr => ?_
                  refine sl_run orc_ok 2 rfl fr fun a fr => ?_
                  refine sl_ldf orc_ok (fun _ S => Sat.stAt S 0 rfl rfl) fr rfl rfl rfl rfl rfl rfl rfl rfl (Sat.mask S [true, true, false, false, false]) fun a fr => ?_
                  have S : Sat w0 _ [mapA .u32 (Value.int .i64) g1 p8, stA 88 g17 [(.int .u8 y16.1), (.int .u32 y16.2.1), (.int .i64 y16.2.2.1)], bookA g4 x5, rclkA g3 D6, stA 169 g2 [(.int .i64 x7), (.map (some g1))]] := S.frontAt 4 rfl
                  have S : Sat w0 _ [stA 169 g2 [(.int .i64 x7), (.map (some g1))], mapA .u32 (Value.int .i64) g1 p8, stA 88 g17 [(.int .u8 y16.1), (.int .u32 y16.2.1), (.int .i64 y16.2.2.1)], bookA g4 x5, rclkA g3 D6] := S.frontAt 4 rfl
                  obtain ⟨r28, hr, h⟩ := bnd h
                  refine sl_call fr rfl rfl rfl rfl rfl en41 (Clear.walk g2 x7 g1 p8 y16.2.1 (fr.int (d := 64) rfl) S hr) ?_
                  rintro _ w ⟨rfl, hv, S⟩
                  refine ⟨_, rfl, hv, (Sat.mask S [false, false, true, true, false]), fun a fr => ?_⟩
                  have S : Sat w0 _ [rclkA g3 D6, stA 169 g2 [(.int .i64 r28.2.1), (.map (some g1))], mapA .u32 (Value.int .i64) g1 r28.2.2, stA 88 g17 [(.int .u8 y16.1), (.int .u32 y16.2.1), (.int .i64 y16.2.2.1)], bookA g4 x5] := S.frontAt 4 rfl
                  obtain ⟨hc, h⟩ := ifs h
                  obtain ⟨y29, hn0, h⟩ := lt_h h
                  obtain ⟨D30, hn1, h⟩ := lt_h h
                  have H := clk_clear (fr.int (d := 68) rfl) hc S
                  rw [hn0, hn1] at H
                  refine sl_call fr rfl rfl rfl rfl rfl en42 H ?_
                  clear H
                  rintro _ w ⟨rfl, hv, S⟩
                  refine ⟨_, rfl, hv, (Sat.mask S [false, false, false, true, true]), fun a fr => ?_⟩
                  refine sl_run orc_ok 1 rfl fr fun a fr => ?_
                  refine sl_end ?_
                  refine then_n ?_
                  refine cw_if fr rfl h (fun h => ?_) (fun h => ?_)
                  · cases h
                  · refine wp_skip ?_
                    refine blk_n ?_
                    exact ⟨D30, r28.2.1, r28.2.2, x5, fr.sub ⟨rfl, rfl, rfl, rfl, rfl, rfl, trivial⟩, S, h⟩
                · refine wp_seq ?_
                  refine wp_region_lit ?_
                  refine wl_run orc_ok 2 rfl fr fun a fr => ?_
                  refine wpList_nil ?_
                  refine then_n ?_
                  refine cw_if fr rfl h (fun h => ?_) (fun h => ?_)
                  · refine wp_skip ?_
                    refine blk_n ?_
                    have S : Sat w0 _ [bookA g4 x5, stA 88 g17 [(.int .u8 y16.1), (.int .u32 y16.2.1), (.int .i64 y16.2.2.1)], rclkA g3 D6, stA 169 g2 [(.int .i64 x7), (.map (some g1))], mapA .u32 (Value.int .i64) g1 p8] := S.frontAt 1 rfl
                    have S : Sat w0 _ [stA 88 g17 [(.int .u8 y16.1), (.int .u32 y16.2.1), (.int .i64 y16.2.2.1)], bookA g4 x5, rclkA g3 D6, stA 169 g2 [(.int .i64 x7), (.map (some g1))], mapA .u32 (Value.int .i64) g1 p8] := S.frontAt 1 rfl
                    have S : Sat w0 _ [mapA .u32 (Value.int .i64) g1 p8, stA 88 g17 [(.int .u8 y16.1), (.int .u32 y16.2.1), (.int .i64 y16.2.2.1)], bookA g4 x5, rclkA g3 D6, stA 169 g2 [(.int .i64 x7), (.map (some g1))]] := S.frontAt 4 rfl
                    have S : Sat w0 _ [stA 169 g2 [(.int .i64 x7), (.map (some g1))], mapA .u32 (Value.int .i64) g1 p8, stA 88 g17 [(.int .u8 y16.1), (.int .u32 y16.2.1), (.int .i64 y16.2.2.1)], bookA g4 x5, rclkA g3 D6] := S.frontAt 4 rfl
                    have S : Sat w0 _ [rclkA g3 D6, stA 169 g2 [(.int .i64 x7), (.map (some g1))], mapA .u32 (Value.int .i64) g1 p8, stA 88 g17 [(.int .u8 y16.1), (.int .u32 y16.2.1), (.int .i64 y16.2.2.1)], bookA g4 x5] := S.frontAt 4 rfl
                    exact ⟨D6, x7, p8, x5, fr.sub ⟨rfl, rfl, rfl, rfl, rfl, rfl, trivial⟩, S, h⟩
                  · refine wp_seq ?_
                    refine wp_region_lit ?_
                    refine wl_run orc_ok 1 rfl fr fun a fr => ?_
                    have S : Sat w0 _ [mapA .u32 (Value.int .i64) g1 p8, stA 88 g17 [(.int .u8 y16.1), (.int .u32 y16.2.1), (.int .i64 y16.2.2.1)], bookA g4 x5, rclkA g3 D6, stA 169 g2 [(.int .i64 x7), (.map (some g1))]] := S.frontAt 4 rfl
                    have S : Sat w0 _ [stA 169 g2 [(.int .i64 x7), (.map (some g1))], mapA .u32 (Value.int .i64) g1 p8, stA 88 g17 [(.int .u8 y16.1), (.int .u32 y16.2.1), (.int .i64 y16.2.2.1)], bookA g4 x5, rclkA g3 D6] := S.frontAt 4 rfl
                    obtain ⟨r31, hr, h⟩ := bnd h
                    refine wl_call fr rfl rfl rfl rfl en43 (Tick.walk k1 g2 x7 g1 p8 S hr) ?_
                    rintro _ w ⟨A32, c33, rfl, hv, S⟩
                    refine ⟨_, rfl, hv, fun a fr => ?_⟩
                    refine wl_run orc_ok 1 rfl fr fun a fr => ?_
                    refine wpList_nil ?_
                    refine then_n ?_
                    refine wp_seq ?_
                    refine wp_seq ?_
                    refine wp_region_lit ?_
                    refine wl_run orc_ok 2 rfl fr fun a fr => ?_
                    have S : Sat w0 _ [rclkA g3 D6, ownA .u32 86 A32 c33 r31.1, stA 169 g2 [(.int .i64 r31.2.1), (.map (some g1))], mapA .u32 (Value.int .i64) g1 r31.2.2, stA 88 g17 [(.int .u8 y16.1), (.int .u32 y16.2.1), (.int .i64 y16.2.2.1)], bookA g4 x5] := S.frontAt 5 rfl
                    obtain ⟨hc, h⟩ := ifs h
                    obtain ⟨l34, hn0, h⟩ := lt_h h
                    obtain ⟨D35, hn1, h⟩ := lt_h h
                    have H := clk_tick hc S
                    rw [hn0, hn1] at H
                    refine wl_call fr rfl rfl rfl rfl en45 H ?_
                    clear H
                    rintro _ w ⟨A36, c37, rfl, hv, S⟩
                    refine ⟨_, rfl, hv, fun a fr => ?_⟩
                    obtain ⟨r38, hr, h⟩ := bnd h
                    refine wl_call fr rfl rfl rfl rfl en44 (SameIds.walk k1 A32 c33 r31.1 A36 c37 l34 (Sat.ownAt S 2 rfl) (fr.slice (d := 37) rfl) (Sat.ownAt S 0 rfl) (fr.slice (d := 39) rfl) S hr) ?_
                    rintro _ w ⟨rfl, hv, S⟩
                    refine ⟨_, rfl, hv, fun a fr => ?_⟩
                    refine wl_run orc_ok 1 rfl fr fun a fr => ?_
                    refine wpList_nil ?_
                    refine then_n ?_
                    refine cw_if fr rfl h (fun h => ?_) (fun h => ?_)
                    · cases h
                    · refine wp_skip ?_
                      refine then_n ?_
                      refine wp_region_lit ?_
                      refine wl_run orc_ok 1 rfl fr fun a fr => ?_
                      obtain ⟨hc, h⟩ := ifs h
                      have S : Sat w0 _ [bookA g4 x5, ownA .u32 86 A36 c37 l34, rclkA g3 D35, ownA .u32 86 A32 c33 r31.1, stA 169 g2 [(.int .i64 r31.2.1), (.map (some g1))], mapA .u32 (Value.int .i64) g1 r31.2.2, stA 88 g17 [(.int .u8 y16.1), (.int .u32 y16.2.1), (.int .i64 y16.2.2.1)]] := S.frontAt 6 rfl
                      have S : Sat w0 _ [ownA .u32 86 A32 c33 r31.1, bookA g4 x5, ownA .u32 86 A36 c37 l34, rclkA g3 D35, stA 169 g2 [(.int .i64 r31.2.1), (.map (some g1))], mapA .u32 (Value.int .i64) g1 r31.2.2, stA 88 g17 [(.int .u8 y16.1), (.int .u32 y16.2.1), (.int .i64 y16.2.2.1)]] := S.frontAt 3 rfl
                      refine wl_call fr rfl rfl rfl rfl en46 (book_ids hc S) ?_
                      rintro _ w ⟨rfl, S⟩
                      refine ⟨_, rfl, rfl, fun a fr => ?_⟩
                      refine wpList_nil ?_
                      refine blk_n ?_
                      have S : Sat w0 _ [bookA g4 (x5 + 1), rclkA g3 D35, stA 169 g2 [(.int .i64 r31.2.1), (.map (some g1))], mapA .u32 (Value.int .i64) g1 r31.2.2, stA 88 g17 [(.int .u8 y16.1), (.int .u32 y16.2.1), (.int .i64 y16.2.2.1)]] := S.mask [true, false, true, true, true, true]
                      have S : Sat w0 _ [stA 88 g17 [(.int .u8 y16.1), (.int .u32 y16.2.1), (.int .i64 y16.2.2.1)], bookA g4 (x5 + 1), rclkA g3 D35, stA 169 g2 [(.int .i64 r31.2.1), (.map (some g1))], mapA .u32 (Value.int .i64) g1 r31.2.2] := S.frontAt 4 rfl
                      have S : Sat w0 _ [mapA .u32 (Value.int .i64) g1 r31.2.2, stA 88 g17 [(.int .u8 y16.1), (.int .u32 y16.2.1), (.int .i64 y16.2.2.1)], bookA g4 (x5 + 1), rclkA g3 D35, stA 169 g2 [(.int .i64 r31.2.1), (.map (some g1))]] := S.frontAt 4 rfl
                      have S : Sat w0 _ [stA 169 g2 [(.int .i64 r31.2.1), (.map (some g1))], mapA .u32 (Value.int .i64) g1 r31.2.2, stA 88 g17 [(.int .u8 y16.1), (.int .u32 y16.2.1), (.int .i64 y16.2.2.1)], bookA g4 (x5 + 1), rclkA g3 D35] := S.frontAt 4 rfl
                      have S : Sat w0 _ [rclkA g3 D35, stA 169 g2 [(.int .i64 r31.2.1), (.map (some g1))], mapA .u32 (Value.int .i64) g1 r31.2.2, stA 88 g17 [(.int .u8 y16.1), (.int .u32 y16.2.1), (.int .i64 y16.2.2.1)], bookA g4 (x5 + 1)] := S.frontAt 4 rfl
                      exact ⟨D35, r31.2.1, r31.2.2, (x5 + 1), fr.sub ⟨rfl, rfl, rfl, rfl, rfl, rfl, trivial⟩, S, h⟩
            · refine wp_region_lit ?_
              refine wl_run orc_ok 2 rfl fr fun a fr => ?_
              refine wpList_nil ?_
              refine then_n ?_
              refine cw_if fr rfl h (fun h => ?_) (fun h => ?_)
              · refine wp_seq ?_
                refine wp_region_sl [.one (0, true, some 47), .one (1, true, some 48), .one (2, true, some 49), .one (3, true, some 50), .one (4, true, some 51), .one (6, true, some 53), .one (7, true, some 54), .one (8, true, some 55), .one (9, true, some 56), .one (10, true, some 57), .one (5, false, some 52), .one (11, false, some 58), .one (12, true, some 59)]
                  [.one ⟨true, some 47, (Go.Op.move (Go.Operand.tmp 3)), 80, none⟩,
    .one ⟨true, some 48, (Go.Op.fieldAddr 88 (Go.Operand.tmp 7) 1), 0, none⟩,
    .one ⟨true, some 49, (Go.Op.load 86 (Go.Operand.tmp 48)), 86, none⟩,
    .one ⟨true, some 50, (Go.Op.fieldAddr 88 (Go.Operand.tmp 7) 2), 0, none⟩,
    .one ⟨true, some 51, (Go.Op.load 3 (Go.Operand.tmp 50)), 3, none⟩,
    .one ⟨true, some 53, (Go.Op.move (Go.Operand.tmp 4)), 82, none⟩,
    .one ⟨true, some 54, (Go.Op.fieldAddr 88 (Go.Operand.tmp 7) 1), 0, none⟩,
    .one ⟨true, some 55, (Go.Op.load 86 (Go.Operand.tmp 54)), 86, none⟩,
    .one ⟨true, some 56, (Go.Op.fieldAddr 88 (Go.Operand.tmp 7) 2), 0, none⟩,
    .one ⟨true, some 57, (Go.Op.load 3 (Go.Operand.tmp 56)), 3, none⟩,
    .one ⟨false, some 52, (Go.Op.call { callee := (Go.Callee.value (Go.Operand.func 39)), args := #[(Go.Operand.tmp 47), (Go.Operand.tmp 49), (Go.Operand.tmp 51)], argTypes := #[80, 86, 3] }), 25, none⟩,
    .one ⟨false, some 58, (Go.Op.call { callee := (Go.Callee.value (Go.Operand.func 40)), args := #[(Go.Operand.tmp 53), (Go.Operand.tmp 55), (Go.Operand.tmp 57)], argTypes := #[82, 86, 3] }), 25, none⟩,
    .one ⟨true, some 59, (Go.Op.binOp Go.BinOp.neq 25 (Go.Operand.tmp 52) (Go.Operand.tmp 58) 25), 4, none⟩]
                  (fun w => Sat w0 w [stA 88 g17 [(.int .u8 y16.1), (.int .u32 y16.2.1), (.int .i64 y16.2.2.1)], bookA g4 x5]) rfl (by kernel_rfl) (by kernel_rfl) (S.drew.mask [true, true, false, false, false]) ?_
                have S := S.drew
                refine sl_run orc_ok 2 rfl fr fun a fr => ?_
                refine sl_ldf orc_ok (fun _ S => Sat.stAt S 0 rfl rfl) fr rfl rfl rfl rfl rfl rfl rfl rfl (Sat.mask S [true, true, false, false, false]) fun a fr => ?_
                refine sl_run orc_ok 1 rfl fr fun a fr => ?_
                refine sl_ldf orc_ok (fun _ S => Sat.stAt S 0 rfl rfl) fr rfl rfl rfl rfl rfl rfl rfl rfl (Sat.mask S [true, true, false, false, false]) fun a fr => ?_
                refine sl_run orc_ok 2 rfl fr fun a fr => ?_
                refine sl_ldf orc_ok (fun _ S => Sat.stAt S 0 rfl rfl) fr rfl rfl rfl rfl rfl rfl rfl rfl (Sat.mask S [true, true, false, false, false]) fun a fr => ?_
                refine sl_run orc_ok 1 rfl fr fun a fr => ?_
                refine sl_ldf orc_ok (fun _ S => Sat.stAt S 0 rfl rfl) fr rfl rfl rfl rfl rfl rfl rfl rfl (Sat.mask S [true, true, false, false, false]) fun a fr => ?_
                have S : Sat w0 _ [mapA .u32 (Value.int .i64) g1 p8, stA 88 g17 [(.int .u8 y16.1), (.int .u32 y16.2.1), (.int .i64 y16.2.2.1)], bookA g4 x5, rclkA g3 D6, stA 169 g2 [(.int .i64 x7), (.map (some g1))]] := S.frontAt 4 rfl
                have S : Sat w0 _ [stA 169 g2 [(.int .i64 x7), (.map (some g1))], mapA .u32 (Value.int .i64) g1 p8, stA 88 g17 [(.int .u8 y16.1), (.int .u32 y16.2.1), (.int .i64 y16.2.2.1)], bookA g4 x5, rclkA g3 D6] := S.frontAt 4 rfl
                obtain ⟨r39, hr, h⟩ := bnd h
                refine sl_call fr rfl rfl rfl rfl rfl en39 (Set.walk g2 x7 g1 p8 y16.2.1 y16.2.2.1 (fr.int (d := 49) rfl) (fr.int (d := 51) rfl) S hr) ?_
                rintro _ w ⟨rfl, hv, S⟩
                refine ⟨_, rfl, hv, (Sat.mask S [false, false, true, true, false]), fun a fr => ?_⟩
                have S : Sat w0 _ [rclkA g3 D6, stA 169 g2 [(.int .i64 r39.2.1), (.map (some g1))], mapA .u32 (Value.int .i64) g1 r39.2.2, stA 88 g17 [(.int .u8 y16.1), (.int .u32 y16.2.1), (.int .i64 y16.2.2.1)], bookA g4 x5] := S.frontAt 4 rfl
                obtain ⟨hc, h⟩ := ifs h
                obtain ⟨y40, hn0, h⟩ := lt_h h
                obtain ⟨D41, hn1, h⟩ := lt_h h
                have H := clk_set (fr.int (d := 55) rfl) (fr.int (d := 57) rfl) hc S
                rw [hn0, hn1] at H
                refine sl_call fr rfl rfl rfl rfl rfl en40 H ?_
                clear H
                rintro _ w ⟨rfl, hv, S⟩
                refine ⟨_, rfl, hv, (Sat.mask S [false, false, false, true, true]), fun a fr => ?_⟩
                refine sl_run orc_ok 1 rfl fr fun a fr => ?_
                refine sl_end ?_
                refine then_n ?_
                refine cw_if fr rfl h (fun h => ?_) (fun h => ?_)
                · cases h
                · refine wp_skip ?_
                  refine blk_n ?_
                  exact ⟨D41, r39.2.1, r39.2.2, x5, fr.sub ⟨rfl, rfl, rfl, rfl, rfl, rfl, trivial⟩, S, h⟩
              · refine wp_seq ?_
                refine wp_region_lit ?_
                refine wl_run orc_ok 2 rfl fr fun a fr => ?_
                refine wpList_nil ?_
                refine then_n ?_
                refine cw_if fr rfl h (fun h => ?_) (fun h => ?_)
                · refine wp_seq ?_
                  refine wp_region_sl [.one (0, true, some 62), .one (1, true, some 63), .one (2, true, some 64), .one (4, true, some 66), .one (5, true, some 67), .one (6, true, some 68), .one (3, false, some 65), .one (7, false, some 69), .one (8, true, some 70)]
                    [.one ⟨true, some 62, (Go.Op.move (Go.Operand.tmp 3)), 80, none⟩,
    .one ⟨true, some 63, (Go.Op.fieldAddr 88 (Go.Operand.tmp 7) 1), 0, none⟩,
    .one ⟨true, some 64, (Go.Op.load 86 (Go.Operand.tmp 63)), 86, none⟩,
    .one ⟨true, some 66, (Go.Op.move (Go.Operand.tmp 4)), 82, none⟩,
    .one ⟨true, some 67, (Go.Op.fieldAddr 88 (Go.Operand.tmp 7) 1), 0, none⟩,
    .one ⟨true, some 68, (Go.Op.load 86 (Go.Operand.tmp 67)), 86, none⟩,
    .one ⟨false, some 65, (Go.Op.call { callee := (Go.Callee.value (Go.Operand.func 41)), args := #[(Go.Operand.tmp 62), (Go.Operand.tmp 64)], argTypes := #[80, 86] }), 25, none⟩,
    .one ⟨false, some 69, (Go.Op.call { callee := (Go.Callee.value (Go.Operand.func 42)), args := #[(Go.Operand.tmp 66), (Go.Operand.tmp 68)], argTypes := #[82, 86] }), 25, none⟩,
    .one ⟨true, some 70, (Go.Op.binOp Go.BinOp.neq 25 (Go.Operand.tmp 65) (Go.Operand.tmp 69) 25), 4, none⟩]
                    (fun w => Sat w0 w [stA 88 g17 [(.int .u8 y16.1), (.int .u32 y16.2.1), (.int .i64 y16.2.2.1)], bookA g4 x5]) rfl (by kernel_rfl) (by kernel_rfl) (S.drew.mask [true, true, false, false, false]) ?_
                  have S := S.drew
                  refine sl_run orc_ok 2 rfl fr fun a fr => ?_
                  refine sl_ldf orc_ok (fun _ S => Sat.stAt S 0 rfl rfl) fr rfl rfl rfl rfl rfl rfl rfl rfl (Sat.mask S [true, true, false, false, false]) fun a fr => ?_
                  refine sl_run orc_ok 2 rfl fr fun a fr => ?_
                  refine sl_ldf orc_ok (fun _ S => Sat.stAt S 0 rfl rfl) fr rfl rfl rfl rfl rfl rfl rfl rfl (Sat.mask S [true, true, false, false, false]) fun a fr => ?_
                  have S : Sat w0 _ [mapA .u32 (Value.int .i64) g1 p8, stA 88 g17 [(.int .u8 y16.1), (.int .u32 y16.2.1), (.int .i64 y16.2.2.1)], bookA g4 x5, rclkA g3 D6, stA 169 g2 [(.int .i64 x7), (.map (some g1))]] := S.frontAt 4 rfl
                  have S : Sat w0 _ [stA 169 g2 [(.int .i64 x7), (.map (some g1))], mapA .u32 (Value.int .i64) g1 p8, stA 88 g17 [(.int .u8 y16.1), (.int .u32 y16.2.1), (.int .i64 y16.2.2.1)], bookA g4 x5, rclkA g3 D6] := S.frontAt 4 rfl
                  obtain ⟨r42, hr, h⟩ := bnd h
                  refine sl_call fr rfl rfl rfl rfl rfl en41 (Clear.walk g2 x7 g1 p8 y16.2.1 (fr.int (d := 64) rfl) S hr) ?_
                  rintro _ w ⟨rfl, hv, S⟩
                  refine ⟨_, rfl, hv, (Sat.mask S [false, false, true, true, false]), fun a fr => ?_⟩
                  have S : Sat w0 _ [rclkA g3 D6, stA 169 g2 [(.int .i64 r42.2.1), (.map (some g1))], mapA .u32 (Value.int .i64) g1 r42.2.2, stA 88 g17 [(.int .u8 y16.1), (.int .u32 y16.2.1), (.int .i64 y16.2.2.1)], bookA g4 x5] := S.frontAt 4 rfl
                  obtain ⟨hc, h⟩ := ifs h
                  obtain ⟨y43, hn0, h⟩ := lt_h h
                  obtain ⟨D44, hn1, h⟩ := lt_h h
                  have H := clk_clear (fr.int (d := 68) rfl) hc S
                  rw [hn0, hn1] at H
                  refine sl_call fr rfl rfl rfl rfl rfl en42 H ?_
                  clear H
                  rintro _ w ⟨rfl, hv, S⟩
                  refine ⟨_, rfl, hv, (Sat.mask S [false, false, false, true, true]), fun a fr => ?_⟩
                  refine sl_run orc_ok 1 rfl fr fun a fr => ?_
                  refine sl_end ?_
                  refine then_n ?_
                  refine cw_if fr rfl h (fun h => ?_) (fun h => ?_)
                  · cases h
                  · refine wp_skip ?_
                    refine blk_n ?_
                    exact ⟨D44, r42.2.1, r42.2.2, x5, fr.sub ⟨rfl, rfl, rfl, rfl, rfl, rfl, trivial⟩, S, h⟩
                · refine wp_seq ?_
                  refine wp_region_lit ?_
                  refine wl_run orc_ok 2 rfl fr fun a fr => ?_
                  refine wpList_nil ?_
                  refine then_n ?_
                  refine cw_if fr rfl h (fun h => ?_) (fun h => ?_)
                  · refine wp_skip ?_
                    refine blk_n ?_
                    have S : Sat w0 _ [bookA g4 x5, stA 88 g17 [(.int .u8 y16.1), (.int .u32 y16.2.1), (.int .i64 y16.2.2.1)], rclkA g3 D6, stA 169 g2 [(.int .i64 x7), (.map (some g1))], mapA .u32 (Value.int .i64) g1 p8] := S.frontAt 1 rfl
                    have S : Sat w0 _ [stA 88 g17 [(.int .u8 y16.1), (.int .u32 y16.2.1), (.int .i64 y16.2.2.1)], bookA g4 x5, rclkA g3 D6, stA 169 g2 [(.int .i64 x7), (.map (some g1))], mapA .u32 (Value.int .i64) g1 p8] := S.frontAt 1 rfl
                    have S : Sat w0 _ [mapA .u32 (Value.int .i64) g1 p8, stA 88 g17 [(.int .u8 y16.1), (.int .u32 y16.2.1), (.int .i64 y16.2.2.1)], bookA g4 x5, rclkA g3 D6, stA 169 g2 [(.int .i64 x7), (.map (some g1))]] := S.frontAt 4 rfl
                    have S : Sat w0 _ [stA 169 g2 [(.int .i64 x7), (.map (some g1))], mapA .u32 (Value.int .i64) g1 p8, stA 88 g17 [(.int .u8 y16.1), (.int .u32 y16.2.1), (.int .i64 y16.2.2.1)], bookA g4 x5, rclkA g3 D6] := S.frontAt 4 rfl
                    have S : Sat w0 _ [rclkA g3 D6, stA 169 g2 [(.int .i64 x7), (.map (some g1))], mapA .u32 (Value.int .i64) g1 p8, stA 88 g17 [(.int .u8 y16.1), (.int .u32 y16.2.1), (.int .i64 y16.2.2.1)], bookA g4 x5] := S.frontAt 4 rfl
                    exact ⟨D6, x7, p8, x5, fr.sub ⟨rfl, rfl, rfl, rfl, rfl, rfl, trivial⟩, S, h⟩
                  · refine wp_seq ?_
                    refine wp_region_lit ?_
                    refine wl_run orc_ok 1 rfl fr fun a fr => ?_
                    have S : Sat w0 _ [mapA .u32 (Value.int .i64) g1 p8, stA 88 g17 [(.int .u8 y16.1), (.int .u32 y16.2.1), (.int .i64 y16.2.2.1)], bookA g4 x5, rclkA g3 D6, stA 169 g2 [(.int .i64 x7), (.map (some g1))]] := S.frontAt 4 rfl
                    have S : Sat w0 _ [stA 169 g2 [(.int .i64 x7), (.map (some g1))], mapA .u32 (Value.int .i64) g1 p8, stA 88 g17 [(.int .u8 y16.1), (.int .u32 y16.2.1), (.int .i64 y16.2.2.1)], bookA g4 x5, rclkA g3 D6] := S.frontAt 4 rfl
                    obtain ⟨r45, hr, h⟩ := bnd h
                    refine wl_call fr rfl rfl rfl rfl en43 (Tick.walk k1 g2 x7 g1 p8 S hr) ?_
                    rintro _ w ⟨A46, c47, rfl, hv, S⟩
                    refine ⟨_, rfl, hv, fun a fr => ?_⟩
                    refine wl_run orc_ok 1 rfl fr fun a fr => ?_
                    refine wpList_nil ?_
                    refine then_n ?_
                    refine wp_seq ?_
                    refine wp_seq ?_
                    refine wp_region_lit ?_
                    refine wl_run orc_ok 2 rfl fr fun a fr => ?_
                    have S : Sat w0 _ [rclkA g3 D6, ownA .u32 86 A46 c47 r45.1, stA 169 g2 [(.int .i64 r45.2.1), (.map (some g1))], mapA .u32 (Value.int .i64) g1 r45.2.2, stA 88 g17 [(.int .u8 y16.1), (.int .u32 y16.2.1), (.int .i64 y16.2.2.1)], bookA g4 x5] := S.frontAt 5 rfl
                    obtain ⟨hc, h⟩ := ifs h
                    obtain ⟨l48, hn0, h⟩ := lt_h h
                    obtain ⟨D49, hn1, h⟩ := lt_h h
                    have H := clk_tick hc S
                    rw [hn0, hn1] at H
                    refine wl_call fr rfl rfl rfl rfl en45 H ?_
                    clear H
                    rintro _ w ⟨A50, c51, rfl, hv, S⟩
                    refine ⟨_, rfl, hv, fun a fr => ?_⟩
                    obtain ⟨r52, hr, h⟩ := bnd h
                    refine wl_call fr rfl rfl rfl rfl en44 (SameIds.walk k1 A46 c47 r45.1 A50 c51 l48 (Sat.ownAt S 2 rfl) (fr.slice (d := 37) rfl) (Sat.ownAt S 0 rfl) (fr.slice (d := 39) rfl) S hr) ?_
                    rintro _ w ⟨rfl, hv, S⟩
                    refine ⟨_, rfl, hv, fun a fr => ?_⟩
                    refine wl_run orc_ok 1 rfl fr fun a fr => ?_
                    refine wpList_nil ?_
                    refine then_n ?_
                    refine cw_if fr rfl h (fun h => ?_) (fun h => ?_)
                    · cases h
                    · refine wp_skip ?_
                      refine then_n ?_
                      refine wp_region_lit ?_
                      refine wl_run orc_ok 1 rfl fr fun a fr => ?_
                      obtain ⟨hc, h⟩ := ifs h
                      have S : Sat w0 _ [bookA g4 x5, ownA .u32 86 A50 c51 l48, rclkA g3 D49, ownA .u32 86 A46 c47 r45.1, stA 169 g2 [(.int .i64 r45.2.1), (.map (some g1))], mapA .u32 (Value.int .i64) g1 r45.2.2, stA 88 g17 [(.int .u8 y16.1), (.int .u32 y16.2.1), (.int .i64 y16.2.2.1)]] := S.frontAt 6 rfl
                      have S : Sat w0 _ [ownA .u32 86 A46 c47 r45.1, bookA g4 x5, ownA .u32 86 A50 c51 l48, rclkA g3 D49, stA 169 g2 [(.int .i64 r45.2.1), (.map (some g1))], mapA .u32 (Value.int .i64) g1 r45.2.2, stA 88 g17 [(.int .u8 y16.1), (.int .u32 y16.2.1), (.int .i64 y16.2.2.1)]] := S.frontAt 3 rfl
                      refine wl_call fr rfl rfl rfl rfl en46 (book_ids hc S) ?_
                      rintro _ w ⟨rfl, S⟩
                      refine ⟨_, rfl, rfl, fun a fr => ?_⟩
                      refine wpList_nil ?_
                      refine blk_n ?_
                      have S : Sat w0 _ [bookA g4 (x5 + 1), rclkA g3 D49, stA 169 g2 [(.int .i64 r45.2.1), (.map (some g1))], mapA .u32 (Value.int .i64) g1 r45.2.2, stA 88 g17 [(.int .u8 y16.1), (.int .u32 y16.2.1), (.int .i64 y16.2.2.1)]] := S.mask [true, false, true, true, true, true]
                      have S : Sat w0 _ [stA 88 g17 [(.int .u8 y16.1), (.int .u32 y16.2.1), (.int .i64 y16.2.2.1)], bookA g4 (x5 + 1), rclkA g3 D49, stA 169 g2 [(.int .i64 r45.2.1), (.map (some g1))], mapA .u32 (Value.int .i64) g1 r45.2.2] := S.frontAt 4 rfl
                      have S : Sat w0 _ [mapA .u32 (Value.int .i64) g1 r45.2.2, stA 88 g17 [(.int .u8 y16.1), (.int .u32 y16.2.1), (.int .i64 y16.2.2.1)], bookA g4 (x5 + 1), rclkA g3 D49, stA 169 g2 [(.int .i64 r45.2.1), (.map (some g1))]] := S.frontAt 4 rfl
                      have S : Sat w0 _ [stA 169 g2 [(.int .i64 r45.2.1), (.map (some g1))], mapA .u32 (Value.int .i64) g1 r45.2.2, stA 88 g17 [(.int .u8 y16.1), (.int .u32 y16.2.1), (.int .i64 y16.2.2.1)], bookA g4 (x5 + 1), rclkA g3 D49] := S.frontAt 4 rfl
                      have S : Sat w0 _ [rclkA g3 D49, stA 169 g2 [(.int .i64 r45.2.1), (.map (some g1))], mapA .u32 (Value.int .i64) g1 r45.2.2, stA 88 g17 [(.int .u8 y16.1), (.int .u32 y16.2.1), (.int .i64 y16.2.2.1)], bookA g4 (x5 + 1)] := S.frontAt 4 rfl
                      exact ⟨D49, r45.2.1, r45.2.2, (x5 + 1), fr.sub ⟨rfl, rfl, rfl, rfl, rfl, rfl, trivial⟩, S, h⟩
          · rintro a w ⟨D18, x19, p20, x21, fr, S, h⟩
            rw [ClocksPlay.j1] at h
            refine wp_seq ?_
            refine wp_region_lit ?_
            refine wl_run orc_ok 2 rfl fr fun a fr => ?_
            refine wl_ldf orc_ok (Sat.stAt S 3 rfl rfl) fr rfl rfl rfl rfl rfl rfl rfl fun a fr => ?_
            have S : Sat w0 _ [mapA .u32 (Value.int .i64) g1 p20, rclkA g3 D18, stA 169 g2 [(.int .i64 x19), (.map (some g1))], stA 88 g17 [(.int .u8 y16.1), (.int .u32 y16.2.1), (.int .i64 y16.2.2.1)], bookA g4 x21] := S.frontAt 2 rfl
            have S : Sat w0 _ [stA 169 g2 [(.int .i64 x19), (.map (some g1))], mapA .u32 (Value.int .i64) g1 p20, rclkA g3 D18, stA 88 g17 [(.int .u8 y16.1), (.int .u32 y16.2.1), (.int .i64 y16.2.2.1)], bookA g4 x21] := S.frontAt 2 rfl
            obtain ⟨r22, hr, h⟩ := bnd h
            refine wl_call fr rfl rfl rfl rfl en47 (Left.walk g2 x19 g1 p20 y16.2.1 (fr.int (d := 76) rfl) S hr) ?_
            rintro _ w ⟨rfl, hv, S⟩
            refine ⟨_, rfl, hv, fun a fr => ?_⟩
            refine wl_run orc_ok 5 rfl fr fun a fr => ?_
            refine wpList_nil ?_
            refine then_n ?_
            refine wp_seq ?_
            refine wp_region_lit ?_
            refine wl_run orc_ok 2 rfl fr fun a fr => ?_
            refine wl_ldf orc_ok (Sat.stAt S 3 rfl rfl) fr rfl rfl rfl rfl rfl rfl rfl fun a fr => ?_
            have S : Sat w0 _ [rclkA g3 D18, stA 169 g2 [(.int .i64 r22.2.2.1), (.map (some g1))], mapA .u32 (Value.int .i64) g1 r22.2.2.2, stA 88 g17 [(.int .u8 y16.1), (.int .u32 y16.2.1), (.int .i64 y16.2.2.1)], bookA g4 x21] := S.frontAt 2 rfl
            obtain ⟨hc, h⟩ := ifs h
            obtain ⟨y23, hn0, h⟩ := lt_h h
            obtain ⟨y24, hn1, h⟩ := lt_h h
            have H := clk_left (fr.int (d := 83) rfl) hc S
            rw [hn0, hn1] at H
            refine wl_call fr rfl rfl rfl rfl en48 H ?_
            clear H
            rintro _ w ⟨rfl, hv, S⟩
            refine ⟨_, rfl, hv, fun a fr => ?_⟩
            refine wl_run orc_ok 5 rfl fr fun a fr => ?_
            refine wpList_nil ?_
            refine then_n ?_
            refine wp_seq ?_
            refine wp_region_lit ?_
            refine wl_run orc_ok 4 rfl fr fun a fr => ?_
            refine wl_split 90 fr rfl h (fun fr h => ?_) (fun fr h => ?_)
            · cases h
            · refine wl_run orc_ok 4 rfl fr fun a fr => ?_
              refine wpList_nil ?_
              refine then_n ?_
              refine cw_if fr rfl h (fun h => ?_) (fun h => ?_)
              · cases h
              · refine wp_skip ?_
                refine blk_n ?_
                refine then_n ?_
                refine wp_region_lit ?_
                refine wl_run orc_ok 3 rfl fr fun a fr => ?_
                refine wpList_nil ?_
                have S : Sat w0 _ [rclkA g3 D18, stA 169 g2 [(.int .i64 r22.2.2.1), (.map (some g1))], mapA .u32 (Value.int .i64) g1 r22.2.2.2, bookA g4 x21] := S.mask [true, true, true, false, true]
                have S : Sat w0 _ [mapA .u32 (Value.int .i64) g1 r22.2.2.2, rclkA g3 D18, stA 169 g2 [(.int .i64 r22.2.2.1), (.map (some g1))], bookA g4 x21] := S.frontAt 2 rfl
                have S : Sat w0 _ [stA 169 g2 [(.int .i64 r22.2.2.1), (.map (some g1))], mapA .u32 (Value.int .i64) g1 r22.2.2.2, rclkA g3 D18, bookA g4 x21] := S.frontAt 2 rfl
                have S : Sat w0 _ [rclkA g3 D18, stA 169 g2 [(.int .i64 r22.2.2.1), (.map (some g1))], mapA .u32 (Value.int .i64) g1 r22.2.2.2, bookA g4 x21] := S.frontAt 2 rfl
                have S : Sat w0 _ [bookA g4 x21, rclkA g3 D18, stA 169 g2 [(.int .i64 r22.2.2.1), (.map (some g1))], mapA .u32 (Value.int .i64) g1 r22.2.2.2] := S.frontAt 3 rfl
                exact ⟨x21, D18, r22.2.2.1, r22.2.2.2, (IntKind.wrap .i64 (x9 + (1 : Int))), fr.sub ⟨rfl, rfl, rfl, rfl, rfl, trivial⟩, S, h⟩
        · refine wp_exit ?_
          refine then_e ?_
          refine then_e ?_
          refine blk_y ?_
          refine then_n ?_
          refine wp_seq ?_
          refine wp_region_lit ?_
          refine wl_call fr rfl rfl rfl rfl en26 (book_apart S) ?_
          rintro _ w ⟨rfl, S⟩
          refine ⟨_, rfl, rfl, fun a fr => ?_⟩
          refine wl_run orc_ok 1 rfl fr fun a fr => ?_
          refine wpList_nil ?_
          refine then_n ?_
          refine wp_ret ?_
          injection h with h
          subst h
          refine ret1 fr rfl rfl ?_
          exact ⟨rfl, fr.vok (d := 2) rfl, S.mask [false, false, false]⟩
  exact (key w rfl (Sat.start w)).mono fun e w' ⟨h1, h2, h3⟩ => ⟨h1, h2, S.new h3.below⟩
end Go.Proofs.YticnjkdaccacaaaGreatDoor.Pl
end
section
/- Plain facts on maps of ticks: who is due. -/
namespace Go.Proofs.YticnjkdaccacaaaGreatDoor.Pl
open Go Go.RowKit Sx Base Own

theorem mem_lk {α : Type} {m : List (Int × α)} (hn : (keysM m).Nodup) {x : Int} {v : α} (h : (x, v) ∈ m) : lkM m x = some v := by
  induction m with
  | nil => cases h
  | cons p r ih =>
    have hn' : p.1 ∉ keysM r ∧ (keysM r).Nodup := by simpa [keysM] using hn
    rw [lkM_cons]
    rcases List.mem_cons.1 h with rfl | h
    · rw [if_pos rfl]
    · rw [if_neg (fun e => hn'.1 (by rw [e]; exact List.mem_map.2 ⟨_, h, rfl⟩)), ih hn'.2 h]
/-- A map of ticks, by what it tells of each key. -/
structure Is (L : Nat) (m : List (Int × Int)) (f : Int → Option Int) : Prop where
  nodup : (keysM m).Nodup
  lk : ∀ x, lkM m x = f x
  bd : ∀ x v, f x = some v → 0 ≤ v ∧ v ≤ 100000000000
  len : m.length ≤ L
theorem up_len {α : Type} (m : List (Int × α)) (x : Int) (v : α) : (upM m x v).length ≤ m.length + 1 := by
  induction m with
  | nil => simp [upM]
  | cons p r ih =>
    unfold upM
    split
    · simp
    · simp only [List.length_cons]; omega
theorem Is.nil : Is 0 [] (fun _ => none) := ⟨List.nodup_nil, fun _ => rfl, (fun _ _ h => by cases h), Nat.le_refl _⟩
theorem Is.more {L L' : Nat} {m : List (Int × Int)} {f : Int → Option Int} (h : Is L m f) (hl : L ≤ L') : Is L' m f := ⟨h.nodup, h.lk, h.bd, Nat.le_trans h.len hl⟩
theorem Is.ext {L : Nat} {m : List (Int × Int)} {f g : Int → Option Int} (h : Is L m f) (e : ∀ x, f x = g x) : Is L m g := ⟨h.nodup, fun x => by rw [h.lk, e], fun x v hv => h.bd x v (by rw [e]; exact hv), h.len⟩
theorem Is.up {L : Nat} {m : List (Int × Int)} {f : Int → Option Int} (h : Is L m f) (x v : Int) (hv : 0 ≤ v ∧ v ≤ 100000000000) : Is (L + 1) (upM m x v) (fun y => if y = x then some v else f y) := by
  refine ⟨nodup_up h.nodup x v, fun y => ?_, fun y w hw => ?_, Nat.le_trans (up_len m x v) (Nat.succ_le_succ h.len)⟩
  · rw [lk_up, h.lk]
    by_cases e : x = y
    · subst e; simp
    · rw [if_neg e, if_neg (fun q => e q.symm)]
  · split at hw
    · injection hw with hw; subst hw; exact hv
    · exact h.bd y w hw
theorem Is.del {L : Nat} {m : List (Int × Int)} {f : Int → Option Int} (h : Is L m f) (x : Int) : Is L (delM m x) (fun y => if y = x then none else f y) := by
  refine ⟨h.nodup.sublist ((del_sub m x).map _), fun y => ?_, fun y w hw => ?_, Nat.le_trans (del_sub m x).length_le h.len⟩
  · rw [lk_del h.nodup, h.lk]
    by_cases e : x = y
    · subst e; simp
    · rw [if_neg e, if_neg (fun q => e q.symm)]
  · split at hw
    · cases hw
    · exact h.bd y w hw
theorem Is.due {L : Nat} {m : List (Int × Int)} {f : Int → Option Int} (h : Is L m f) {now : Int} (h0 : 0 ≤ now ∧ now ≤ 100000000000) {l : List Int} (hs : l.Pairwise (· < ·)) (hl : ∀ x, x ∈ l ↔ f x = some now) : Clk.due now m = l := by
  have hnd : (clkC now m).Nodup := h.nodup.sublist (List.filter_sublist.map _)
  have hnl : l.Nodup := hs.imp (fun hab e => by omega)
  have hp : l.Perm (clkC now m) := by
    rw [List.perm_ext_iff_of_nodup hnl hnd]
    intro x
    rw [hl x, ← h.lk]
    unfold clkC
    rw [List.mem_map]
    constructor
    · intro hx
      refine ⟨(x, now), List.mem_filter.2 ⟨lk_some hx, ?_⟩, rfl⟩
      unfold clkH
      rw [w64 (by simp) (by simp)]
      simp
    · rintro ⟨⟨a, b⟩, hp, rfl⟩
      obtain ⟨h1, h2⟩ := List.mem_filter.1 hp
      have h3 := mem_lk h.nodup h1
      have hb := h.bd a b (by rw [← h.lk]; exact h3)
      unfold clkH at h2
      simp only at h2
      rw [w64 (by omega) (by omega)] at h2
      have : b - now = 0 := by simpa using h2
      rw [h3]
      congr 1
      omega
  rw [← due_of hp]
  have hle : l.Pairwise (fun x y => x ≤ y) := hs.imp (fun hab => by omega)
  exact List.mergeSort_of_pairwise (hle.imp (fun hab => by simpa using hab))
/-- Who is due, whatever it is. -/
theorem Is.dues {L : Nat} {m : List (Int × Int)} {f : Int → Option Int} (h : Is L m f) {now : Int} (h0 : 0 ≤ now ∧ now ≤ 100000000000) : (∀ x, x ∈ Clk.due now m ↔ f x = some now) ∧ (Clk.due now m).Pairwise (· < ·) ∧ (Clk.due now m).length ≤ L := by
  have hnd : (clkC now m).Nodup := h.nodup.sublist (List.filter_sublist.map _)
  have hpm := (List.mergeSort_perm (clkC now m) (fun x y => decide (x ≤ y)))
  refine ⟨fun x => ?_, ?_, ?_⟩
  · show x ∈ (clkC now m).mergeSort _ ↔ _
    rw [hpm.mem_iff, ← h.lk]
    unfold clkC
    rw [List.mem_map]
    constructor
    · rintro ⟨⟨a, b⟩, hp, rfl⟩
      obtain ⟨h1, h2⟩ := List.mem_filter.1 hp
      have h3 := mem_lk h.nodup h1
      have hb := h.bd a b (by rw [← h.lk]; exact h3)
      unfold clkH at h2
      simp only at h2
      rw [w64 (by omega) (by omega)] at h2
      have : b - now = 0 := by simpa using h2
      rw [h3]
      congr 1
      omega
    · intro hx
      refine ⟨(x, now), List.mem_filter.2 ⟨lk_some hx, ?_⟩, rfl⟩
      unfold clkH
      rw [w64 (by simp) (by simp)]
      simp
  · have h1 := List.pairwise_mergeSort (le := fun (x y : Int) => decide (x ≤ y)) (fun a b c h1 h2 => by simp only [decide_eq_true_eq] at *; omega) (fun a b => by simp only [Bool.or_eq_true, decide_eq_true_eq]; omega) (clkC now m)
    have h2 : (Clk.due now m).Nodup := (hpm.nodup_iff).2 hnd
    have h3 := h1.and h2
    exact h3.imp (fun {a b} hab => by
      have p : a ≤ b := by simpa using hab.1
      have q := hab.2
      omega)
  · show ((clkC now m).mergeSort _).length ≤ L
    rw [hpm.length_eq, clkC, List.length_map]
    exact Nat.le_trans (List.length_filter_le _ _) h.len
theorem Is.dels {L : Nat} (l : List Int) : ∀ {m : List (Int × Int)} {f : Int → Option Int}, Is L m f → Is L (l.foldl delM m) (fun y => if y ∈ l then none else f y) := by
  induction l with
  | nil => intro m f h; exact h.ext (fun x => by simp)
  | cons x l ih =>
    intro m f h
    refine (ih (h.del x)).ext (fun y => ?_)
    by_cases e : y = x
    · subst e; simp
    · simp [e]
theorem sorted_unique {l1 l2 : List Int} (h1 : l1.Pairwise (· < ·)) (h2 : l2.Pairwise (· < ·)) (h : ∀ x, x ∈ l1 ↔ x ∈ l2) : l1 = l2 := by
  have n1 : l1.Nodup := h1.imp (fun hab e => by omega)
  have n2 : l2.Nodup := h2.imp (fun hab e => by omega)
  exact List.Perm.eq_of_pairwise (le := fun x y => x < y) (fun a b _ _ h1 h2 => by omega) h1 h2 ((List.perm_ext_iff_of_nodup n1 n2).2 h)
theorem del_len {α : Type} {m : List (Int × α)} {x : Int} (h : x ∈ keysM m) : (delM m x).length + 1 = m.length := by
  induction m with
  | nil => simp [keysM] at h
  | cons p r ih =>
    unfold delM
    by_cases hp : p.1 = x
    · rw [if_pos hp]; rfl
    · rw [if_neg hp]
      have : x ∈ keysM r := by
        simp only [keysM, List.map_cons, List.mem_cons] at h
        exact h.resolve_left (fun e => hp e.symm)
      have := ih this
      simp only [List.length_cons]; omega
theorem dels_len {L : Nat} (l : List Int) : ∀ {m : List (Int × Int)} {f : Int → Option Int}, Is L m f → l.Nodup → (∀ x ∈ l, f x ≠ none) → (l.foldl delM m).length + l.length = m.length := by
  induction l with
  | nil => intro m f h _ _; rfl
  | cons x l ih =>
    intro m f h hn hf
    rw [List.nodup_cons] at hn
    have hx : x ∈ keysM m := by
      have := hf x List.mem_cons_self
      rw [← h.lk] at this
      exact Classical.byContradiction fun q => this (lk_none.2 q)
    have h1 := del_len hx
    have h2 := ih (h.del x) hn.2 (fun y hy => by
      rw [if_neg (fun e => hn.1 (by rw [← e]; exact hy))]
      exact hf y (List.mem_cons_of_mem _ hy))
    simp only [List.foldl_cons, List.length_cons]
    omega
theorem up_len_new {α : Type} {m : List (Int × α)} {x : Int} (v : α) (h : lkM m x = none) : (upM m x v).length = m.length + 1 := by
  have h1 := congrArg List.length (keys_up m x v)
  rw [if_neg (lk_none.1 h)] at h1
  simpa [keysM] using h1
theorem Is.empty {L : Nat} {m : List (Int × Int)} {f : Int → Option Int} (h : Is L m f) (hf : ∀ x, f x = none) : m = [] := by
  cases m with
  | nil => rfl
  | cons p r =>
    have := h.lk p.1
    rw [hf, lkM_cons, if_pos rfl] at this
    cases this
end Go.Proofs.YticnjkdaccacaaaGreatDoor.Pl
end
section
/- What arguments of any shape read as, and how long what is in them may be. -/
namespace Go.Proofs.YticnjkdaccacaaaGreatDoor.Base
open Go Go.RowKit Go.ChangeShapes Go.WideShapes
namespace Rdr

def smT {α : Type} : α → Prop := fun _ => True
def smL {α : Type} (s : α → Prop) : List α → Prop := fun l => l.length ≤ 140737488351232 ∧ ∀ y ∈ l, s y
def smA {α : Type} (s : α → Prop) : List α → Prop := fun l => ∀ y ∈ l, s y
def smP {α β : Type} (s : α → Prop) (t : β → Prop) : α × β → Prop := fun x => s x.1 ∧ t x.2
def OfS (P : Program) (t : TypeId) {α : Type} (r : Rdr α) (s : α → Prop) : Prop :=
  P.cellsOf t = r.sz ∧ ∀ (H : Type) (enc : TypeId × Value → H) (w : World) (base : Nat) (spare : Nat → Bool) (held : Bool) (fuel : Nat) (cs : List Value) (x : DataW H × List MemPlace),
    DataW.trod enc P w base spare held fuel t cs = some x → ∃ y, r.R w cs y ∧ ((∀ n ∈ x.1.weights P t, n ≤ reachBytes) → s y)
section
variable {P : Program} {t : TypeId}
theorem ofS {α : Type} {r : Rdr α} (h : Of P t r) : OfS P t r smT := ⟨h.1, fun H enc w base spare held fuel cs x hx => by
  obtain ⟨y, hy⟩ := h.2 H enc w base spare held fuel cs x hx
  exact ⟨y, hy, fun _ => trivial⟩⟩
theorem all_mem {H : Type} {e : TypeId} : ∀ {l : List (DataW H)} {d : DataW H}, d ∈ l → ∀ n ∈ d.weights P e, n ∈ DataW.weightsAll P e l := by
  intro l
  induction l with
  | nil => intro d hd; cases hd
  | cons c l ih =>
    intro d hd n hn
    simp only [DataW.weightsAll, List.mem_append]
    rcases List.mem_cons.1 hd with rfl | hd
    · exact .inl hn
    · exact .inr (ih hd n hn)
theorem ofS_sl {α : Type} {r : Rdr α} {s : α → Prop} {e : TypeId} (ht : P.underlying t = some (.slice e)) (hc : P.cellsOf t = 1) (he : OfS P e r s) {B : Nat} (hB : P.bytesOf e = B) (hB0 : 0 < B) : OfS P t (sl r) (smL s) := by
  refine ⟨hc, fun H enc w base spare held fuel cs x h => ?_⟩
  rcases Deep.open_slice ht h with ⟨rfl, _⟩ | ⟨a, len, cap, m, n, D, Pl, rfl, hb, hl, hm, hmm, hxe, hx⟩
  · exact ⟨[], ⟨none, 0, rfl, Nat.le_refl _, Nat.zero_le _, fun h => absurd rfl h⟩, fun _ => ⟨Nat.zero_le _, fun y hy => by cases hy⟩⟩
  · rw [he.1] at hx
    have hlm : len ≤ m := by rw [hmm]; split <;> omega
    have hex : ∀ i, i < len → ∃ y c, w.cells? base (a.add (i * r.sz)) r.sz = some c ∧ r.R w c y ∧ ((∀ n ∈ (D i).weights P e, n ≤ reachBytes) → s y) := by
      intro i hi
      obtain ⟨c, h1, h2⟩ := hx i (by omega)
      obtain ⟨y, hy, hs⟩ := he.2 H enc w base spare held n _ _ h2
      exact ⟨y, c, h1, hy, hs⟩
    obtain ⟨f, hf⟩ : ∃ f : Fin len → α, ∀ i : Fin len, ∃ c, w.cells? base (a.add (i.val * r.sz)) r.sz = some c ∧ r.R w c (f i) ∧ ((∀ n ∈ (D i.val).weights P e, n ≤ reachBytes) → s (f i)) :=
      ⟨fun i => (hex i.val i.isLt).choose, fun i => (hex i.val i.isLt).choose_spec⟩
    refine ⟨List.ofFn f, ⟨some a, cap, by simp, by simp; exact hl, hm, fun hne => ⟨a, rfl, fun hp => ?_, fun i y hy => ?_⟩⟩, fun hw => ⟨?_, fun y hy => ?_⟩⟩
    · have hpos : 0 < len := by
        rcases Nat.eq_zero_or_pos len with h0 | h0
        · subst h0; simp at hne
        · exact h0
      obtain ⟨c, h1, h2, _⟩ := hf ⟨0, hpos⟩
      obtain ⟨_, hlen, hcell⟩ := World.cells?_some h1
      have h3 := hcell 0 (by omega)
      rw [List.getElem?_eq_getElem (by omega)] at h3
      have h4 := World.block_lt_of_cell? w _ h3
      rw [add_block, add_block] at h4
      exact h4
    · have hi : i < len := by
        have := (List.getElem?_eq_some_iff.1 hy).1; simpa using this
      have h2 := (List.getElem?_eq_some_iff.1 hy).2
      rw [List.getElem_ofFn] at h2
      obtain ⟨c, h3, h4, _⟩ := hf ⟨i, hi⟩
      rw [h2] at h4
      refine ⟨c, h4, fun j u hu => ?_⟩
      obtain ⟨_, hlen, hcell⟩ := World.cells?_some h3
      have hj : j < r.sz := by have := (List.getElem?_eq_some_iff.1 hu).1; omega
      have h5 := hcell j hj
      rw [add_add] at h5
      rw [h5]; exact hu
    · rw [List.length_ofFn]
      subst hxe
      have h1 := hw ((((List.range len).map D).length + ((List.range (m - len)).map fun j => D (len + j)).length) * P.bytesOf e) (by simp only [DataW.weights, ht]; exact List.mem_cons_self)
      rw [List.length_map, List.length_range, hB] at h1
      have h2 : len * 1 ≤ (len + ((List.range (m - len)).map fun j => D (len + j)).length) * B := Nat.mul_le_mul (Nat.le_add_right _ _) hB0
      have h3 : reachBytes ≤ 140737488351232 := by decide
      omega
    · obtain ⟨i, hi, rfl⟩ := List.getElem_of_mem hy
      rw [List.length_ofFn] at hi
      rw [List.getElem_ofFn]
      obtain ⟨c, _, _, h4⟩ := hf ⟨i, hi⟩
      refine h4 fun n hn => hw n ?_
      subst hxe
      simp only [DataW.weights, ht]
      exact List.mem_cons_of_mem _ (List.mem_append_left _ (all_mem (List.mem_map.2 ⟨i, List.mem_range.2 hi, rfl⟩) n hn))
/-- A struct's fields, one behind the other. -/
def OfFS (P : Program) (fs : List Field) (off : Nat) {α : Type} (r : Rdr α) (s : α → Prop) : Prop :=
  ∀ (H : Type) (enc : TypeId × Value → H) (w : World) (base : Nat) (spare : Nat → Bool) (held : Bool) (fuel : Nat) (cs : List Value) (xs : List (DataW H × List MemPlace)),
    cs.length = off + r.sz → (fs.mapM fun f => DataW.trod enc P w base spare held fuel f.type ((cs.drop f.offset).take (P.cellsOf f.type))) = some xs → ∃ y, r.R w (cs.drop off) y ∧ ((∀ n ∈ DataW.weightsEach P (fs.map (·.type)) (xs.map (·.1)), n ≤ reachBytes) → s y)
theorem ofFS_nil (off : Nat) : OfFS P [] off unit smT := by
  intro H enc w base spare held fuel cs xs hl _
  exact ⟨(), List.drop_eq_nil_of_le (by rw [hl]; exact Nat.le_refl _), fun _ => trivial⟩
theorem ofFS_cons {α β : Type} {r : Rdr α} {s : Rdr β} {f : Field} {fs : List Field} {off : Nat} {s1 : α → Prop} {s2 : β → Prop} (hf : f.offset = off) (hr : OfS P f.type r s1) (hs : OfFS P fs (off + r.sz) s s2) : OfFS P (f :: fs) off (pair r s) (smP s1 s2) := by
  intro H enc w base spare held fuel cs xs hl h
  have hl' : cs.length = off + (r.sz + s.sz) := hl
  simp only [List.mapM_cons, Option.bind_eq_bind, Option.bind_eq_some_iff] at h
  obtain ⟨x, h1, ys, h2, h3⟩ := h
  injection h3 with h3
  rw [hf, hr.1] at h1
  obtain ⟨a, ha, ha2⟩ := hr.2 H enc w base spare held fuel _ _ h1
  obtain ⟨b, hb, hb2⟩ := hs H enc w base spare held fuel cs ys (by omega) h2
  refine ⟨(a, b), ⟨(cs.drop off).take r.sz, cs.drop (off + r.sz), ?_, ha, hb⟩, fun hw => ⟨ha2 fun n hn => hw n ?_, hb2 fun n hn => hw n ?_⟩⟩
  · rw [← List.drop_drop, List.take_append_drop]
  · rw [← h3]
    simp only [List.map_cons, DataW.weightsEach, List.mem_append]
    exact .inl hn
  · rw [← h3]
    simp only [List.map_cons, DataW.weightsEach, List.mem_append]
    exact .inr hn
theorem ofS_st {α : Type} {r : Rdr α} {s : α → Prop} {fs : Array Field} (ht : P.underlying t = some (.struct fs)) (hc : P.cellsOf t = r.sz) (hF : OfFS P fs.toList 0 r s) : OfS P t r s := by
  refine ⟨hc, fun H enc w base spare held fuel cs x h => ?_⟩
  cases fuel with
  | zero => simp [DataW.trod] at h
  | succ n =>
    unfold DataW.trod at h
    rw [ht] at h
    simp only at h
    split at h
    · rename_i hl
      simp only [Option.map_eq_some_iff] at h
      obtain ⟨xs, hxs, hx⟩ := h
      obtain ⟨y, hy, hy2⟩ := hF H enc w base spare held n cs xs (by rw [hl, hc]; omega) hxs
      refine ⟨y, by simpa using hy, fun hw => hy2 fun k hk => hw k ?_⟩
      rw [← hx]
      simp only [DataW.weights, ht]
      exact hk
    · cases h
/-- A row's argument that is a slice. -/
theorem ofS_slice_arg {α : Type} {r : Rdr α} {s : List α → Prop} {H : Type} {enc : TypeId × Value → H} {w : World} {base : Nat} {spare : Nat → Bool} {held : Bool} {A : Option Addr} {len cap : Nat} {d : DataW H} {ps : List MemPlace} {ts : List TypeId} {ds : List (DataW H)} {j : Nat}
    (hsz : (DataW.weightsEach P ts ds).all (· ≤ reachBytes) = true) (hj : ts[j]? = some t) (hd' : ds[j]? = some d) (h : OfS P t (sl r) s) (hd : DataW.Trod enc P w base spare held t (.slice A len cap) d ps) :
    ∃ l : List α, l.length = len ∧ len ≤ cap ∧ cap ≤ maxLen ∧ Row r w A l ∧ s l := by
  obtain ⟨fuel, hf⟩ := hd
  obtain ⟨l, ⟨A', cap', e, h1, h2, h3⟩, h4⟩ := h.2 H enc w base spare held fuel _ _ hf
  simp only [Value.cells, List.cons.injEq, and_true] at e
  injection e with e1 e2 e3
  subst e1 e2 e3
  exact ⟨l, rfl, h1, h2, h3, h4 fun n hn => of_decide_eq_true (List.all_eq_true.1 hsz n (DataW.weights_mem_each hj hd' n hn))⟩
/-- A row's argument that is an array or a struct. -/
theorem ofS_agg_arg {α : Type} {r : Rdr α} {s : α → Prop} {H : Type} {enc : TypeId × Value → H} {w : World} {base : Nat} {spare : Nat → Bool} {held : Bool} {cs : Array Value} {d : DataW H} {ps : List MemPlace} {ts : List TypeId} {ds : List (DataW H)} {j : Nat}
    (hsz : (DataW.weightsEach P ts ds).all (· ≤ reachBytes) = true) (hj : ts[j]? = some t) (hd' : ds[j]? = some d) (h : OfS P t r s) (hd : DataW.Trod enc P w base spare held t (.agg cs) d ps) :
    ∃ x : α, r.R w cs.toList x ∧ s x := by
  obtain ⟨fuel, hf⟩ := hd
  obtain ⟨y, h1, h2⟩ := h.2 H enc w base spare held fuel _ _ hf
  exact ⟨y, h1, h2 fun n hn => of_decide_eq_true (List.all_eq_true.1 hsz n (DataW.weights_mem_each hj hd' n hn))⟩
end
end Rdr
end Go.Proofs.YticnjkdaccacaaaGreatDoor.Base
end
