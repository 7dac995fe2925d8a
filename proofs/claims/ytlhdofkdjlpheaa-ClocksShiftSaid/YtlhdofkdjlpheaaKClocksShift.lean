/- Walks over the program's functions, printed by a program of this work (wip/tools/shal.py): each call does what the plain function says. -/
import Derived.Test.YtlhdofkdjlpheaaProg
import Derived.Test.YtlhdofkdjlpheaaClk
import Derived.Test.YtlhdofkdjlpheaaSo
import Derived.Test.YtlhdofkdjlpheaaDClocksShift
namespace Go.Proofs.Ytlhdofkdjlpheaa.Pl
open Go Go.RowKit Sx Base Own

def orc : Orc := ⟨[(3, .int .i64), (5, .int .u8), (22, .int .u32), (23, .pointer 26), (24, .map 22 3), (26, .struct #[Go.Field.mk "now" 3 0 false "" "concordat/clocks" 0, Go.Field.mk "when" 24 1 false "" "concordat/clocks" 8]), (33, .slice 22), (36, .slice 5)],
  [(3, 1), (5, 1), (22, 1), (24, 1)]⟩
theorem orc_ok : orc.Ok Try.prog := ⟨⟨Try.underlying3, Try.underlying5, Try.underlying22, Try.underlying23, Try.underlying24, Try.underlying26, Try.underlying33, Try.underlying36, trivial⟩, ⟨by kernel_rfl, by kernel_rfl, by kernel_rfl, by kernel_rfl, trivial⟩⟩
theorem en10 : Enters Try.prog 10 := fun _ _ => by kernel_rfl
theorem en11 : Enters Try.prog 11 := fun _ _ => by kernel_rfl
theorem en12 : Enters Try.prog 12 := fun _ _ => by kernel_rfl
theorem en13 : Enters Try.prog 13 := fun _ _ => by kernel_rfl
theorem en14 : Enters Try.prog 14 := fun _ _ => by kernel_rfl
theorem en15 : Enters Try.prog 15 := fun _ _ => by kernel_rfl
theorem en16 : Enters Try.prog 16 := fun _ _ => by kernel_rfl
theorem en17 : Enters Try.prog 17 := fun _ _ => by kernel_rfl
theorem en18 : Enters Try.prog 18 := fun _ _ => by kernel_rfl
theorem zero3 : ∀ W, (zeroValue 3).run Try.prog W = .ok (.int .i64 0) W := fun _ => by kernel_rfl
theorem lit33 : RowTy Try.prog 33 22 .u32 := ⟨Try.underlying33, 4, by decide, by kernel_rfl⟩
set_option maxRecDepth 100000 in
set_option maxHeartbeats 4000000 in
theorem there.walk (g900 : Nat) (x1000 : Int) (g1001 : Nat) (p1001 : List (Int × Int)) {w0 w : World} {R : List Asn}  (S : Sat w0 w (stA 26 g900 [(.int .i64 x1000), (.map (some g1001))] :: mapA .u32 (Value.int .i64) g1001 p1001 :: R)) {r : Bool × Int × List (Int × Int)} (h : there.f x1000 p1001 = some r) :
    Calls Try.prog 17 #[(.pointer (some ⟨g900, 0, none⟩))] w fun e w' => e = .returned (.bool r.1) ∧ vok (.bool r.1) = true ∧ Sat w0 w' (stA 26 g900 [(.int .i64 r.2.1), (.map (some g1001))] :: mapA .u32 (Value.int .i64) g1001 r.2.2 :: R) := by
  unfold there.f at h
  refine calls_start (N := 12) [(.pointer (some ⟨g900, 0, none⟩))] Try.func17 rfl rfl rfl (vok_c rfl rfl) fun a fr => ?_
  refine wp_seq ?_
  refine wp_region_lit ?_
  refine wl_run orc_ok 1 rfl fr fun a fr => ?_
  refine wpList_nil ?_
  refine then_n ?_
  refine wp_seq ?_
  refine wp_region_lit ?_
  refine wl_run orc_ok 6 rfl fr fun a fr => ?_
  refine wl_ldf orc_ok (Sat.stAt S 0 rfl rfl) fr rfl rfl rfl rfl rfl rfl rfl fun a fr => ?_
  refine wl_run orc_ok 3 rfl fr fun a fr => ?_
  refine wpList_nil ?_
  refine then_n ?_
  refine wp_ret ?_
  have S : Sat w0 _ (mapA .u32 (Value.int .i64) g1001 p1001 :: stA 26 g900 [(.int .i64 x1000), (.map (some g1001))] :: R) := S.frontAt 1 rfl
  have S : Sat w0 _ (stA 26 g900 [(.int .i64 x1000), (.map (some g1001))] :: mapA .u32 (Value.int .i64) g1001 p1001 :: R) := S.frontAt 1 rfl
  injection h with h
  subst h
  refine ret1 fr rfl rfl ?_
  exact ⟨rfl, fr.vok (d := 2) rfl, S.mask [true, true]⟩
set_option maxRecDepth 100000 in
set_option maxHeartbeats 4000000 in
theorem Set.walk (g900 : Nat) (x1000 : Int) (g1001 : Nat) (p1001 : List (Int × Int)) (a1 : Int) (a2 : Int) {w0 w : World} {R : List Asn} (v1 : (Lit.int .u32 a1).wf = true) (v2 : (Lit.int .i64 a2).wf = true) (S : Sat w0 w (stA 26 g900 [(.int .i64 x1000), (.map (some g1001))] :: mapA .u32 (Value.int .i64) g1001 p1001 :: R)) {r : Int × Int × List (Int × Int)} (h : Set.f x1000 p1001 a1 a2 = some r) :
    Calls Try.prog 11 #[(.pointer (some ⟨g900, 0, none⟩)), (.int .u32 a1), (.int .i64 a2)] w fun e w' => e = .returned (.int .i64 r.1) ∧ vok (.int .i64 r.1) = true ∧ Sat w0 w' (stA 26 g900 [(.int .i64 r.2.1), (.map (some g1001))] :: mapA .u32 (Value.int .i64) g1001 r.2.2 :: R) := by
  unfold Set.f at h
  refine calls_start (N := 29) [(.pointer (some ⟨g900, 0, none⟩)), (.int .u32 a1), (.int .i64 a2)] Try.func11 rfl rfl rfl (vok_c rfl (vok_c v1 (vok_c v2 rfl))) fun a fr => ?_
  refine wp_seq ?_
  refine wp_region_lit ?_
  refine wl_run orc_ok 1 rfl fr fun a fr => ?_
  refine wpList_nil ?_
  refine then_n ?_
  refine wp_seq ?_
  refine wp_block ?_
  refine wp_seq ?_
  refine wp_region_lit ?_
  refine wl_run orc_ok 1 rfl fr fun a fr => ?_
  have S : Sat w0 _ (mapA .u32 (Value.int .i64) g1001 p1001 :: stA 26 g900 [(.int .i64 x1000), (.map (some g1001))] :: R) := S.frontAt 1 rfl
  have S : Sat w0 _ (stA 26 g900 [(.int .i64 x1000), (.map (some g1001))] :: mapA .u32 (Value.int .i64) g1001 p1001 :: R) := S.frontAt 1 rfl
  obtain ⟨r1, hr, h⟩ := bnd h
  refine wl_call fr rfl rfl rfl rfl en17 (there.walk g900 x1000 g1001 p1001 S hr) ?_
  rintro _ w ⟨rfl, hv, S⟩
  refine ⟨_, rfl, hv, fun a fr => ?_⟩
  refine wl_run orc_ok 2 rfl fr fun a fr => ?_
  refine wpList_nil ?_
  refine then_n ?_
  refine cw_if fr rfl h (fun h => ?_) (fun h => ?_)
  · refine wp_seq ?_
    refine wp_region_lit ?_
    refine wl_run orc_ok 1 rfl fr fun a fr => ?_
    refine wpList_nil ?_
    refine then_n ?_
    refine wp_ret ?_
    refine blk_r ?_
    refine then_r ?_
    have S : Sat w0 _ (mapA .u32 (Value.int .i64) g1001 r1.2.2 :: stA 26 g900 [(.int .i64 r1.2.1), (.map (some g1001))] :: R) := S.frontAt 1 rfl
    have S : Sat w0 _ (stA 26 g900 [(.int .i64 r1.2.1), (.map (some g1001))] :: mapA .u32 (Value.int .i64) g1001 r1.2.2 :: R) := S.frontAt 1 rfl
    injection h with h
    subst h
    refine ret1 fr rfl rfl ?_
    exact ⟨rfl, fr.vok (d := 6) rfl, S.mask [true, true]⟩
  · refine wp_seq ?_
    refine wp_region_lit ?_
    refine wl_run orc_ok 3 rfl fr fun a fr => ?_
    refine wl_split 14 fr rfl h (fun fr h => ?_) (fun fr h => ?_)
    · refine wl_run orc_ok 4 rfl fr fun a fr => ?_
      refine wpList_nil ?_
      refine then_n ?_
      refine cw_t fr rfl ?_
      refine wp_seq ?_
      refine wp_region_lit ?_
      refine wl_run orc_ok 1 rfl fr fun a fr => ?_
      refine wpList_nil ?_
      refine then_n ?_
      refine wp_ret ?_
      refine blk_r ?_
      refine then_r ?_
      have S : Sat w0 _ (mapA .u32 (Value.int .i64) g1001 r1.2.2 :: stA 26 g900 [(.int .i64 r1.2.1), (.map (some g1001))] :: R) := S.frontAt 1 rfl
      have S : Sat w0 _ (stA 26 g900 [(.int .i64 r1.2.1), (.map (some g1001))] :: mapA .u32 (Value.int .i64) g1001 r1.2.2 :: R) := S.frontAt 1 rfl
      injection h with h
      subst h
      refine ret1 fr rfl rfl ?_
      exact ⟨rfl, fr.vok (d := 6) rfl, S.mask [true, true]⟩
    · refine wl_run orc_ok 4 rfl fr fun a fr => ?_
      refine wpList_nil ?_
      refine then_n ?_
      refine cw_if fr rfl h (fun h => ?_) (fun h => ?_)
      · refine wp_seq ?_
        refine wp_region_lit ?_
        refine wl_run orc_ok 1 rfl fr fun a fr => ?_
        refine wpList_nil ?_
        refine then_n ?_
        refine wp_ret ?_
        refine blk_r ?_
        refine then_r ?_
        have S : Sat w0 _ (mapA .u32 (Value.int .i64) g1001 r1.2.2 :: stA 26 g900 [(.int .i64 r1.2.1), (.map (some g1001))] :: R) := S.frontAt 1 rfl
        have S : Sat w0 _ (stA 26 g900 [(.int .i64 r1.2.1), (.map (some g1001))] :: mapA .u32 (Value.int .i64) g1001 r1.2.2 :: R) := S.frontAt 1 rfl
        injection h with h
        subst h
        refine ret1 fr rfl rfl ?_
        exact ⟨rfl, fr.vok (d := 6) rfl, S.mask [true, true]⟩
      · refine wp_skip ?_
        refine blk_n ?_
        refine then_n ?_
        refine wp_seq ?_
        refine wp_region_sl [.one (0, true, some 18), .one (1, true, some 19), .one (2, true, some 20), .one (3, true, some 21), .one (4, true, some 22), .one (5, true, some 23), .one (6, true, some 24), .one (7, true, some 25), .one (8, true, some 26), .one (9, true, some 27), .one (10, true, some 28), .one (11, false, none)]
          [.one ⟨true, some 18, (Go.Op.move (Go.Operand.tmp 0)), 23, none⟩,
    .one ⟨true, some 19, (Go.Op.nilCheck (Go.Operand.tmp 18)), 0, none⟩,
    .one ⟨true, some 20, (Go.Op.fieldAddr 26 (Go.Operand.tmp 19) 1), 0, none⟩,
    .one ⟨true, some 21, (Go.Op.load 24 (Go.Operand.tmp 20)), 24, none⟩,
    .one ⟨true, some 22, (Go.Op.move (Go.Operand.tmp 1)), 22, none⟩,
    .one ⟨true, some 23, (Go.Op.move (Go.Operand.tmp 0)), 23, none⟩,
    .one ⟨true, some 24, (Go.Op.nilCheck (Go.Operand.tmp 23)), 0, none⟩,
    .one ⟨true, some 25, (Go.Op.fieldAddr 26 (Go.Operand.tmp 24) 0), 0, none⟩,
    .one ⟨true, some 26, (Go.Op.load 3 (Go.Operand.tmp 25)), 3, none⟩,
    .one ⟨true, some 27, (Go.Op.move (Go.Operand.tmp 2)), 3, none⟩,
    .one ⟨true, some 28, (Go.Op.binOp Go.BinOp.add 3 (Go.Operand.tmp 26) (Go.Operand.tmp 27) 3), 3, none⟩,
    .one ⟨false, none, (Go.Op.mapUpdate 24 (Go.Operand.tmp 21) (Go.Operand.tmp 22) (Go.Operand.tmp 28)), 0, none⟩]
          (fun w => Sat w0 w (stA 26 g900 [(.int .i64 r1.2.1), (.map (some g1001))] :: R)) rfl (by kernel_rfl) (by kernel_rfl) (S.drew.mask [true, false]) ?_
        have S := S.drew
        refine sl_run orc_ok 3 rfl fr fun a fr => ?_
        refine sl_ldf orc_ok (fun _ S => Sat.stAt S 0 rfl rfl) fr rfl rfl rfl rfl rfl rfl rfl rfl (Sat.mask S [true, false]) fun a fr => ?_
        refine sl_run orc_ok 4 rfl fr fun a fr => ?_
        refine sl_ldf orc_ok (fun _ S => Sat.stAt S 0 rfl rfl) fr rfl rfl rfl rfl rfl rfl rfl rfl (Sat.mask S [true, false]) fun a fr => ?_
        refine sl_run orc_ok 2 rfl fr fun a fr => ?_
        have S : Sat w0 _ (mapA .u32 (Value.int .i64) g1001 r1.2.2 :: stA 26 g900 [(.int .i64 r1.2.1), (.map (some g1001))] :: R) := S.frontAt 1 rfl
        refine sl_up orc_ok (IntKind.wrap .i64 (r1.2.1 + a2)) fr rfl rfl rfl (.inl rfl) rfl rfl rfl rfl rfl S ?_
        intro w S
        refine ⟨(Sat.mask S [false, true]), ?_⟩
        obtain ⟨p2, hx, h⟩ := lt_h h
        rw [hx] at S
        refine sl_end ?_
        refine then_n ?_
        refine wp_seq ?_
        refine wp_region_lit ?_
        refine wl_run orc_ok 1 rfl fr fun a fr => ?_
        refine wpList_nil ?_
        refine then_n ?_
        refine wp_ret ?_
        have S : Sat w0 _ (stA 26 g900 [(.int .i64 r1.2.1), (.map (some g1001))] :: mapA .u32 (Value.int .i64) g1001 p2 :: R) := S.frontAt 1 rfl
        injection h with h
        subst h
        refine ret1 fr rfl rfl ?_
        exact ⟨rfl, fr.vok (d := 6) rfl, S.mask [true, true]⟩
set_option maxRecDepth 100000 in
set_option maxHeartbeats 4000000 in
theorem Tick.walk (k : Nat) (g900 : Nat) (x1000 : Int) (g1001 : Nat) (p1001 : List (Int × Int)) {w0 w : World} {R : List Asn}  (S : Sat w0 w (stA 26 g900 [(.int .i64 x1000), (.map (some g1001))] :: mapA .u32 (Value.int .i64) g1001 p1001 :: R)) {r : List Int × Int × List (Int × Int)} (h : Tick.f k x1000 p1001 = some r) :
    Calls Try.prog 13 #[(.pointer (some ⟨g900, 0, none⟩))] w fun e w' => ∃ A800 : Option Addr, ∃ c800 : Nat, e = .returned (.slice A800 (List.length r.1) c800) ∧ vok (.slice A800 (List.length r.1) c800) = true ∧ Sat w0 w' (ownA .u32 22 A800 c800 r.1 :: stA 26 g900 [(.int .i64 r.2.1), (.map (some g1001))] :: mapA .u32 (Value.int .i64) g1001 r.2.2 :: R) := by
  unfold Tick.f at h
  refine calls_start (N := 31) [(.pointer (some ⟨g900, 0, none⟩))] Try.func13 rfl rfl rfl (vok_c rfl rfl) fun a fr => ?_
  refine wp_seq ?_
  refine wp_region_lit ?_
  refine wl_run orc_ok 1 rfl fr fun a fr => ?_
  refine wpList_nil ?_
  refine then_n ?_
  refine wp_seq ?_
  refine wp_seq ?_
  refine wp_region_lit ?_
  refine wl_run orc_ok 1 rfl fr fun a fr => ?_
  have S : Sat w0 _ (mapA .u32 (Value.int .i64) g1001 p1001 :: stA 26 g900 [(.int .i64 x1000), (.map (some g1001))] :: R) := S.frontAt 1 rfl
  have S : Sat w0 _ (stA 26 g900 [(.int .i64 x1000), (.map (some g1001))] :: mapA .u32 (Value.int .i64) g1001 p1001 :: R) := S.frontAt 1 rfl
  obtain ⟨r1, hr, h⟩ := bnd h
  refine wl_call fr rfl rfl rfl rfl en17 (there.walk g900 x1000 g1001 p1001 S hr) ?_
  rintro _ w ⟨rfl, hv, S⟩
  refine ⟨_, rfl, hv, fun a fr => ?_⟩
  refine wl_run orc_ok 1 rfl fr fun a fr => ?_
  refine wpList_nil ?_
  refine then_n ?_
  refine cw_if fr rfl h (fun h => ?_) (fun h => ?_)
  · refine wp_seq ?_
    refine wp_region_lit ?_
    refine wl_run orc_ok 1 rfl fr fun a fr => ?_
    refine wpList_nil ?_
    refine then_n ?_
    refine wp_ret ?_
    refine then_r ?_
    have S : Sat w0 _ (ownA .u32 22 none 0 ([] : List Int) :: stA 26 g900 [(.int .i64 r1.2.1), (.map (some g1001))] :: mapA .u32 (Value.int .i64) g1001 r1.2.2 :: R) := S.nilRow .u32 22
    have S : Sat w0 _ (mapA .u32 (Value.int .i64) g1001 r1.2.2 :: ownA .u32 22 none 0 ([] : List Int) :: stA 26 g900 [(.int .i64 r1.2.1), (.map (some g1001))] :: R) := S.frontAt 2 rfl
    have S : Sat w0 _ (stA 26 g900 [(.int .i64 r1.2.1), (.map (some g1001))] :: mapA .u32 (Value.int .i64) g1001 r1.2.2 :: ownA .u32 22 none 0 ([] : List Int) :: R) := S.frontAt 2 rfl
    have S : Sat w0 _ (ownA .u32 22 none 0 ([] : List Int) :: stA 26 g900 [(.int .i64 r1.2.1), (.map (some g1001))] :: mapA .u32 (Value.int .i64) g1001 r1.2.2 :: R) := S.frontAt 2 rfl
    injection h with h
    subst h
    refine ret1 fr rfl rfl ?_
    exact ⟨none, 0, rfl, fr.vok (d := 2) rfl, S.mask [true, true, true]⟩
  · refine wp_skip ?_
    refine then_n ?_
    refine wp_seq ?_
    refine wp_region_lit ?_
    refine wl_run orc_ok 3 rfl fr fun a fr => ?_
    refine wl_ldf orc_ok (Sat.stAt S 0 rfl rfl) fr rfl rfl rfl rfl rfl rfl rfl fun a fr => ?_
    refine wl_run orc_ok 3 rfl fr fun a fr => ?_
    refine wl_stf (j := 0) orc_ok fr rfl rfl rfl rfl rfl rfl rfl rfl S rfl ?_
    intro w S
    obtain ⟨x2, hx, h⟩ := lt_h h
    have S : Sat w0 w (stA 26 g900 [(.int .i64 (IntKind.wrap .i64 (r1.2.1 + (1 : Int)))), (.map (some g1001))] :: mapA .u32 (Value.int .i64) g1001 r1.2.2 :: R) := S
    rw [hx] at S
    refine wpList_nil ?_
    refine then_n ?_
    refine wp_seq ?_
    refine wp_region_lit ?_
    refine wl_run orc_ok 1 rfl fr fun a fr => ?_
    have S : Sat w0 _ (mapA .u32 (Value.int .i64) g1001 r1.2.2 :: stA 26 g900 [(.int .i64 x2), (.map (some g1001))] :: R) := S.frontAt 1 rfl
    have S : Sat w0 _ (stA 26 g900 [(.int .i64 x2), (.map (some g1001))] :: mapA .u32 (Value.int .i64) g1001 r1.2.2 :: R) := S.frontAt 1 rfl
    obtain ⟨hc, h⟩ := ifs h
    refine wl_call fr rfl rfl rfl rfl en18 (clk_those S hc) ?_
    rintro _ w ⟨A3, c4, rfl, hv, S⟩
    refine ⟨_, rfl, hv, fun a fr => ?_⟩
    obtain ⟨l5, hx, h⟩ := lt_h h
    rw [hx] at S fr
    refine wl_run orc_ok 1 rfl fr fun a fr => ?_
    refine wpList_nil ?_
    refine then_n ?_
    refine wp_seq ?_
    refine wp_seq ?_
    refine wp_region_lit ?_
    refine wl_run orc_ok 3 rfl fr fun a fr => ?_
    refine wpList_nil ?_
    refine then_n ?_
    refine wp_block ?_
    refine cw_loop (fun k1 a w => ∃ p6 : List (Int × Int), ∃ x7 : Int, Fr 31 a [(0, (.pointer (some ⟨g900, 0, none⟩))), (3, (.slice A3 (List.length l5) c4)), (18, (.slice A3 (List.length l5) c4)), (19, (.int .i64 (List.length l5 : Int))), (20, (.int .i64 x7))] ∧ Sat w0 w (ownA .u32 22 A3 c4 l5 :: stA 26 g900 [(.int .i64 x2), (.map (some g1001))] :: mapA .u32 (Value.int .i64) g1001 p6 :: R) ∧ (Tick.l1 k1 l5 x2 p6 x7) = some r) k ⟨r1.2.2, (0 : Int), fr.sub ⟨rfl, rfl, rfl, rfl, rfl, trivial⟩, S, h⟩ ?_ ?_
    · rintro a w ⟨p6, x7, -, -, h⟩
      simp only [Tick.l1] at h
      cases h
    · rintro k1 a w ⟨p6, x7, fr, S, h⟩
      rw [Tick.l1] at h
      refine wp_seq ?_
      refine wp_region_lit ?_
      refine wl_run orc_ok 1 rfl fr fun a fr => ?_
      refine wpList_nil ?_
      refine then_n ?_
      refine wp_seq ?_
      refine cw_if fr rfl h (fun h => ?_) (fun h => ?_)
      · refine wp_skip ?_
        refine then_n ?_
        refine wp_seq ?_
        refine wp_block ?_
        refine wp_seq ?_
        refine wp_region_lit ?_
        obtain ⟨hc, h⟩ := ifs h
        refine wl_ld orc_ok (Sat.ownAt S 0 rfl) fr rfl rfl rfl rfl rfl rfl rfl rfl rfl rfl rfl rfl rfl rfl rfl rfl hc fun a fr => ?_
        refine wl_run orc_ok 1 rfl fr fun a fr => ?_
        obtain ⟨y10, hx, h⟩ := lt_h h
        have fr := fr.spell (d := 5) rfl (congrArg (Value.int .u32) hx)
        refine wpList_nil ?_
        refine then_n ?_
        refine wp_region_lit ?_
        refine wl_run orc_ok 3 rfl fr fun a fr => ?_
        refine wl_ldf orc_ok (Sat.stAt S 1 rfl rfl) fr rfl rfl rfl rfl rfl rfl rfl fun a fr => ?_
        refine wl_run orc_ok 1 rfl fr fun a fr => ?_
        have S : Sat w0 _ (mapA .u32 (Value.int .i64) g1001 p6 :: ownA .u32 22 A3 c4 l5 :: stA 26 g900 [(.int .i64 x2), (.map (some g1001))] :: R) := S.frontAt 2 rfl
        refine wl_del orc_ok fr rfl rfl rfl rfl rfl rfl rfl rfl S ?_
        intro w S
        obtain ⟨p11, hx, h⟩ := lt_h h
        rw [hx] at S
        refine wpList_nil ?_
        refine blk_n ?_
        refine then_n ?_
        refine wp_region_lit ?_
        refine wl_run orc_ok 2 rfl fr fun a fr => ?_
        refine wpList_nil ?_
        have S : Sat w0 _ (stA 26 g900 [(.int .i64 x2), (.map (some g1001))] :: mapA .u32 (Value.int .i64) g1001 p11 :: ownA .u32 22 A3 c4 l5 :: R) := S.frontAt 2 rfl
        have S : Sat w0 _ (ownA .u32 22 A3 c4 l5 :: stA 26 g900 [(.int .i64 x2), (.map (some g1001))] :: mapA .u32 (Value.int .i64) g1001 p11 :: R) := S.frontAt 2 rfl
        exact ⟨p11, (IntKind.wrap .i64 (x7 + (1 : Int))), fr.sub ⟨rfl, rfl, rfl, rfl, rfl, trivial⟩, S, h⟩
      · refine wp_exit ?_
        refine then_e ?_
        refine then_e ?_
        refine blk_y ?_
        refine then_n ?_
        refine wp_seq ?_
        refine wp_region_lit ?_
        refine wl_run orc_ok 2 rfl fr fun a fr => ?_
        refine wpList_nil ?_
        refine then_n ?_
        refine wp_ret ?_
        have S : Sat w0 _ (mapA .u32 (Value.int .i64) g1001 p6 :: ownA .u32 22 A3 c4 l5 :: stA 26 g900 [(.int .i64 x2), (.map (some g1001))] :: R) := S.frontAt 2 rfl
        have S : Sat w0 _ (stA 26 g900 [(.int .i64 x2), (.map (some g1001))] :: mapA .u32 (Value.int .i64) g1001 p6 :: ownA .u32 22 A3 c4 l5 :: R) := S.frontAt 2 rfl
        have S : Sat w0 _ (ownA .u32 22 A3 c4 l5 :: stA 26 g900 [(.int .i64 x2), (.map (some g1001))] :: mapA .u32 (Value.int .i64) g1001 p6 :: R) := S.frontAt 2 rfl
        injection h with h
        subst h
        refine ret1 fr rfl rfl ?_
        exact ⟨A3, c4, rfl, fr.vok (d := 2) rfl, S.mask [true, true, true]⟩
set_option maxRecDepth 100000 in
set_option maxHeartbeats 4000000 in
theorem Left.walk (g900 : Nat) (x1000 : Int) (g1001 : Nat) (p1001 : List (Int × Int)) (a1 : Int) {w0 w : World} {R : List Asn} (v1 : (Lit.int .u32 a1).wf = true) (S : Sat w0 w (stA 26 g900 [(.int .i64 x1000), (.map (some g1001))] :: mapA .u32 (Value.int .i64) g1001 p1001 :: R)) {r : Int × Bool × Int × List (Int × Int)} (h : Left.f x1000 p1001 a1 = some r) :
    Calls Try.prog 10 #[(.pointer (some ⟨g900, 0, none⟩)), (.int .u32 a1)] w fun e w' => e = .returned (.tuple #[(.int .i64 r.1), (.bool r.2.1)]) ∧ vok (.tuple #[(.int .i64 r.1), (.bool r.2.1)]) = true ∧ Sat w0 w' (stA 26 g900 [(.int .i64 r.2.2.1), (.map (some g1001))] :: mapA .u32 (Value.int .i64) g1001 r.2.2.2 :: R) := by
  unfold Left.f at h
  refine calls_start (N := 28) [(.pointer (some ⟨g900, 0, none⟩)), (.int .u32 a1)] Try.func10 rfl rfl rfl (vok_c rfl (vok_c v1 rfl)) fun a fr => ?_
  refine wp_seq ?_
  refine wp_region_lit ?_
  refine wl_run orc_ok 2 rfl fr fun a fr => ?_
  refine wpList_nil ?_
  refine then_n ?_
  refine wp_seq ?_
  refine wp_seq ?_
  refine wp_region_lit ?_
  refine wl_run orc_ok 1 rfl fr fun a fr => ?_
  have S : Sat w0 _ (mapA .u32 (Value.int .i64) g1001 p1001 :: stA 26 g900 [(.int .i64 x1000), (.map (some g1001))] :: R) := S.frontAt 1 rfl
  have S : Sat w0 _ (stA 26 g900 [(.int .i64 x1000), (.map (some g1001))] :: mapA .u32 (Value.int .i64) g1001 p1001 :: R) := S.frontAt 1 rfl
  obtain ⟨r1, hr, h⟩ := bnd h
  refine wl_call fr rfl rfl rfl rfl en17 (there.walk g900 x1000 g1001 p1001 S hr) ?_
  rintro _ w ⟨rfl, hv, S⟩
  refine ⟨_, rfl, hv, fun a fr => ?_⟩
  refine wl_run orc_ok 1 rfl fr fun a fr => ?_
  refine wpList_nil ?_
  refine then_n ?_
  refine cw_if fr rfl h (fun h => ?_) (fun h => ?_)
  · refine wp_seq ?_
    refine wp_region_lit ?_
    refine wl_run orc_ok 2 rfl fr fun a fr => ?_
    refine wpList_nil ?_
    refine then_n ?_
    refine wp_ret ?_
    refine then_r ?_
    have S : Sat w0 _ (mapA .u32 (Value.int .i64) g1001 r1.2.2 :: stA 26 g900 [(.int .i64 r1.2.1), (.map (some g1001))] :: R) := S.frontAt 1 rfl
    have S : Sat w0 _ (stA 26 g900 [(.int .i64 r1.2.1), (.map (some g1001))] :: mapA .u32 (Value.int .i64) g1001 r1.2.2 :: R) := S.frontAt 1 rfl
    injection h with h
    subst h
    refine ret2 fr rfl rfl rfl ?_
    exact ⟨rfl, vok_tupib fr (d := 4) (e := 5) rfl rfl, S.mask [true, true]⟩
  · refine wp_skip ?_
    refine then_n ?_
    refine wp_seq ?_
    refine wp_region_lit ?_
    refine wl_run orc_ok 3 rfl fr fun a fr => ?_
    refine wl_ldf orc_ok (Sat.stAt S 0 rfl rfl) fr rfl rfl rfl rfl rfl rfl rfl fun a fr => ?_
    refine wl_run orc_ok 1 rfl fr fun a fr => ?_
    refine wl_lk2 (f := (Value.int .i64)) orc_ok (0 : Int) zero3 rfl (fun _ => rfl) (Sat.mapAt S 1 rfl) fr rfl rfl rfl rfl rfl rfl rfl rfl fun a fr => ?_
    refine wl_run orc_ok 4 rfl fr fun a fr => ?_
    obtain ⟨y2, hx, h⟩ := lt_h h
    have fr := fr.spell (d := 6) rfl (congrArg (Value.int .i64) hx)
    refine wl_run orc_ok 1 rfl fr fun a fr => ?_
    obtain ⟨y3, hx, h⟩ := lt_h h
    have fr := fr.spell (d := 7) rfl (congrArg Value.bool hx)
    refine wpList_nil ?_
    refine then_n ?_
    refine wp_seq ?_
    refine wp_seq ?_
    refine wp_region_lit ?_
    refine wl_run orc_ok 2 rfl fr fun a fr => ?_
    refine wpList_nil ?_
    refine then_n ?_
    refine cw_if fr rfl h (fun h => ?_) (fun h => ?_)
    · refine wp_seq ?_
      refine wp_region_lit ?_
      refine wl_run orc_ok 2 rfl fr fun a fr => ?_
      refine wpList_nil ?_
      refine then_n ?_
      refine wp_ret ?_
      refine then_r ?_
      have S : Sat w0 _ (mapA .u32 (Value.int .i64) g1001 r1.2.2 :: stA 26 g900 [(.int .i64 r1.2.1), (.map (some g1001))] :: R) := S.frontAt 1 rfl
      have S : Sat w0 _ (stA 26 g900 [(.int .i64 r1.2.1), (.map (some g1001))] :: mapA .u32 (Value.int .i64) g1001 r1.2.2 :: R) := S.frontAt 1 rfl
      injection h with h
      subst h
      refine ret2 fr rfl rfl rfl ?_
      exact ⟨rfl, vok_tupib fr (d := 4) (e := 5) rfl rfl, S.mask [true, true]⟩
    · refine wp_skip ?_
      refine then_n ?_
      refine wp_seq ?_
      refine wp_region_lit ?_
      refine wl_run orc_ok 4 rfl fr fun a fr => ?_
      refine wl_ldf orc_ok (Sat.stAt S 0 rfl rfl) fr rfl rfl rfl rfl rfl rfl rfl fun a fr => ?_
      refine wl_run orc_ok 2 rfl fr fun a fr => ?_
      obtain ⟨y4, hx, h⟩ := lt_h h
      have fr := fr.spell (d := 4) rfl (congrArg (Value.int .i64) hx)
      refine wl_run orc_ok 1 rfl fr fun a fr => ?_
      refine wpList_nil ?_
      refine then_n ?_
      refine wp_ret ?_
      have S : Sat w0 _ (mapA .u32 (Value.int .i64) g1001 r1.2.2 :: stA 26 g900 [(.int .i64 r1.2.1), (.map (some g1001))] :: R) := S.frontAt 1 rfl
      have S : Sat w0 _ (stA 26 g900 [(.int .i64 r1.2.1), (.map (some g1001))] :: mapA .u32 (Value.int .i64) g1001 r1.2.2 :: R) := S.frontAt 1 rfl
      injection h with h
      subst h
      refine ret2 fr rfl rfl rfl ?_
      exact ⟨rfl, vok_tupib fr (d := 4) (e := 5) rfl rfl, S.mask [true, true]⟩
set_option maxRecDepth 100000 in
set_option maxHeartbeats 4000000 in
theorem SameIds.walk (k : Nat) (A0 : Option Addr) (c0 : Nat) (l0 : List Int) (A1 : Option Addr) (c1 : Nat) (l1 : List Int) {w0 w : World} {R : List Asn} (rk0 : Rk .u32 w A0 l0) (m0 : l0.length ≤ c0 ∧ c0 ≤ maxLen) (rk1 : Rk .u32 w A1 l1) (m1 : l1.length ≤ c1 ∧ c1 ≤ maxLen) (S : Sat w0 w R) {r : Bool} (h : SameIds.f k l0 l1 = some r) :
    Calls Try.prog 16 #[(.slice A0 (List.length l0) c0), (.slice A1 (List.length l1) c1)] w fun e w' => e = .returned (.bool r) ∧ vok (.bool r) = true ∧ Sat w0 w' R := by
  have key : ∀ w0 : World, w0 = w → Sat w0 w [] → Calls Try.prog 16 #[(.slice A0 (List.length l0) c0), (.slice A1 (List.length l1) c1)] w fun e w' => e = .returned (.bool r) ∧ vok (.bool r) = true ∧ Sat w0 w' [] := by
    clear S
    intro w0 hw S
    rw [← hw] at rk0
    rw [← hw] at rk1
    clear hw
    unfold SameIds.f at h
    refine calls_start (N := 26) [(.slice A0 (List.length l0) c0), (.slice A1 (List.length l1) c1)] Try.func16 rfl rfl rfl (vok_c (vok_sl m0) (vok_c (vok_sl m1) rfl)) fun a fr => ?_
    refine wp_seq ?_
    refine wp_region_lit ?_
    refine wl_run orc_ok 1 rfl fr fun a fr => ?_
    refine wpList_nil ?_
    refine then_n ?_
    refine wp_seq ?_
    refine wp_seq ?_
    refine wp_region_lit ?_
    refine wl_run orc_ok 5 rfl fr fun a fr => ?_
    refine wpList_nil ?_
    refine then_n ?_
    refine cw_if fr rfl h (fun h => ?_) (fun h => ?_)
    · refine wp_seq ?_
      refine wp_region_lit ?_
      refine wl_run orc_ok 1 rfl fr fun a fr => ?_
      refine wpList_nil ?_
      refine then_n ?_
      refine wp_ret ?_
      refine then_r ?_
      injection h with h
      subst h
      refine ret1 fr rfl rfl ?_
      exact ⟨rfl, fr.vok (d := 4) rfl, S.mask []⟩
    · refine wp_skip ?_
      refine then_n ?_
      refine wp_seq ?_
      refine wp_seq ?_
      refine wp_region_lit ?_
      refine wl_run orc_ok 1 rfl fr fun a fr => ?_
      refine wpList_nil ?_
      refine then_n ?_
      refine wp_block ?_
      refine cw_loop (fun k1 a w => ∃ x1 : Int, Fr 26 a [(0, (.slice A0 (List.length l0) c0)), (1, (.slice A1 (List.length l1) c1)), (5, (.int .i64 x1))] ∧ Sat w0 w [] ∧ (SameIds.l1 k1 l0 l1 x1) = some r) k ⟨(0 : Int), fr.sub ⟨rfl, rfl, rfl, trivial⟩, S, h⟩ ?_ ?_
      · rintro a w ⟨x1, -, -, h⟩
        simp only [SameIds.l1] at h
        cases h
      · rintro k1 a w ⟨x1, fr, S, h⟩
        rw [SameIds.l1] at h
        refine wp_seq ?_
        refine wp_seq ?_
        refine wp_region_lit ?_
        refine wl_run orc_ok 4 rfl fr fun a fr => ?_
        refine wpList_nil ?_
        refine then_n ?_
        refine cw_if fr rfl h (fun h => ?_) (fun h => ?_)
        · refine wp_skip ?_
          refine then_n ?_
          refine wp_seq ?_
          refine wp_block ?_
          refine wp_seq ?_
          refine wp_region_sl [.one (0, true, some 17), .one (1, true, some 18), .one (2, true, some 19), .one (3, true, some 20), .one (4, true, some 21), .one (5, true, some 22), .one (6, true, some 23), .one (7, true, some 24), .one (8, true, some 25)]
            [.one ⟨true, some 17, (Go.Op.move (Go.Operand.tmp 0)), 33, none⟩,
    .one ⟨true, some 18, (Go.Op.move (Go.Operand.tmp 5)), 3, none⟩,
    .one ⟨true, some 19, (Go.Op.indexAddr 33 (Go.Operand.tmp 17) (Go.Operand.tmp 18)), 0, none⟩,
    .one ⟨true, some 20, (Go.Op.load 22 (Go.Operand.tmp 19)), 22, none⟩,
    .one ⟨true, some 21, (Go.Op.move (Go.Operand.tmp 1)), 33, none⟩,
    .one ⟨true, some 22, (Go.Op.move (Go.Operand.tmp 5)), 3, none⟩,
    .one ⟨true, some 23, (Go.Op.indexAddr 33 (Go.Operand.tmp 21) (Go.Operand.tmp 22)), 0, none⟩,
    .one ⟨true, some 24, (Go.Op.load 22 (Go.Operand.tmp 23)), 22, none⟩,
    .one ⟨true, some 25, (Go.Op.binOp Go.BinOp.neq 22 (Go.Operand.tmp 20) (Go.Operand.tmp 24) 22), 4, none⟩]
            (fun w => Sat w0 w []) rfl (by kernel_rfl) (by kernel_rfl) (S.drew.mask []) ?_
          have S := S.drew
          refine sl_run orc_ok 2 rfl fr fun a fr => ?_
          obtain ⟨hc, h⟩ := ifs h
          refine sl_ld orc_ok (fun _ S => Rk.at rk0 S) fr rfl rfl rfl rfl rfl rfl rfl rfl rfl rfl rfl rfl rfl rfl rfl rfl rfl rfl hc (Sat.mask S []) fun a fr => ?_
          refine sl_run orc_ok 2 rfl fr fun a fr => ?_
          obtain ⟨hc, h⟩ := ifs h
          refine sl_ld orc_ok (fun _ S => Rk.at rk1 S) fr rfl rfl rfl rfl rfl rfl rfl rfl rfl rfl rfl rfl rfl rfl rfl rfl rfl rfl hc (Sat.mask S []) fun a fr => ?_
          refine sl_run orc_ok 1 rfl fr fun a fr => ?_
          refine sl_end ?_
          refine then_n ?_
          refine cw_if fr rfl h (fun h => ?_) (fun h => ?_)
          · refine wp_seq ?_
            refine wp_region_lit ?_
            refine wl_run orc_ok 1 rfl fr fun a fr => ?_
            refine wpList_nil ?_
            refine then_n ?_
            refine wp_ret ?_
            refine blk_r ?_
            refine then_r ?_
            refine then_r ?_
            refine blk_r ?_
            refine then_r ?_
            injection h with h
            subst h
            refine ret1 fr rfl rfl ?_
            exact ⟨rfl, fr.vok (d := 4) rfl, S.mask []⟩
          · refine wp_skip ?_
            refine blk_n ?_
            refine then_n ?_
            refine wp_region_lit ?_
            refine wl_run orc_ok 3 rfl fr fun a fr => ?_
            refine wpList_nil ?_
            exact ⟨(IntKind.wrap .i64 (x1 + (1 : Int))), fr.sub ⟨rfl, rfl, rfl, trivial⟩, S, h⟩
        · refine wp_exit ?_
          refine then_e ?_
          refine then_e ?_
          refine blk_y ?_
          refine then_n ?_
          refine wp_seq ?_
          refine wp_region_lit ?_
          refine wl_run orc_ok 1 rfl fr fun a fr => ?_
          refine wpList_nil ?_
          refine then_n ?_
          refine wp_ret ?_
          injection h with h
          subst h
          refine ret1 fr rfl rfl ?_
          exact ⟨rfl, fr.vok (d := 4) rfl, S.mask []⟩
  exact (key w rfl (Sat.start w)).mono fun e w' ⟨h1, h2, h3⟩ => ⟨h1, h2, S.new h3.below⟩
set_option maxRecDepth 100000 in
set_option maxHeartbeats 4000000 in
theorem Clear.walk (g900 : Nat) (x1000 : Int) (g1001 : Nat) (p1001 : List (Int × Int)) (a1 : Int) {w0 w : World} {R : List Asn} (v1 : (Lit.int .u32 a1).wf = true) (S : Sat w0 w (stA 26 g900 [(.int .i64 x1000), (.map (some g1001))] :: mapA .u32 (Value.int .i64) g1001 p1001 :: R)) {r : Int × Int × List (Int × Int)} (h : Clear.f x1000 p1001 a1 = some r) :
    Calls Try.prog 12 #[(.pointer (some ⟨g900, 0, none⟩)), (.int .u32 a1)] w fun e w' => e = .returned (.int .i64 r.1) ∧ vok (.int .i64 r.1) = true ∧ Sat w0 w' (stA 26 g900 [(.int .i64 r.2.1), (.map (some g1001))] :: mapA .u32 (Value.int .i64) g1001 r.2.2 :: R) := by
  unfold Clear.f at h
  refine calls_start (N := 26) [(.pointer (some ⟨g900, 0, none⟩)), (.int .u32 a1)] Try.func12 rfl rfl rfl (vok_c rfl (vok_c v1 rfl)) fun a fr => ?_
  refine wp_seq ?_
  refine wp_region_lit ?_
  refine wl_run orc_ok 1 rfl fr fun a fr => ?_
  refine wpList_nil ?_
  refine then_n ?_
  refine wp_seq ?_
  refine wp_seq ?_
  refine wp_region_lit ?_
  refine wl_run orc_ok 1 rfl fr fun a fr => ?_
  have S : Sat w0 _ (mapA .u32 (Value.int .i64) g1001 p1001 :: stA 26 g900 [(.int .i64 x1000), (.map (some g1001))] :: R) := S.frontAt 1 rfl
  have S : Sat w0 _ (stA 26 g900 [(.int .i64 x1000), (.map (some g1001))] :: mapA .u32 (Value.int .i64) g1001 p1001 :: R) := S.frontAt 1 rfl
  obtain ⟨r1, hr, h⟩ := bnd h
  refine wl_call fr rfl rfl rfl rfl en17 (there.walk g900 x1000 g1001 p1001 S hr) ?_
  rintro _ w ⟨rfl, hv, S⟩
  refine ⟨_, rfl, hv, fun a fr => ?_⟩
  refine wl_run orc_ok 1 rfl fr fun a fr => ?_
  refine wpList_nil ?_
  refine then_n ?_
  refine cw_if fr rfl h (fun h => ?_) (fun h => ?_)
  · refine wp_seq ?_
    refine wp_region_lit ?_
    refine wl_run orc_ok 1 rfl fr fun a fr => ?_
    refine wpList_nil ?_
    refine then_n ?_
    refine wp_ret ?_
    refine then_r ?_
    have S : Sat w0 _ (mapA .u32 (Value.int .i64) g1001 r1.2.2 :: stA 26 g900 [(.int .i64 r1.2.1), (.map (some g1001))] :: R) := S.frontAt 1 rfl
    have S : Sat w0 _ (stA 26 g900 [(.int .i64 r1.2.1), (.map (some g1001))] :: mapA .u32 (Value.int .i64) g1001 r1.2.2 :: R) := S.frontAt 1 rfl
    injection h with h
    subst h
    refine ret1 fr rfl rfl ?_
    exact ⟨rfl, fr.vok (d := 4) rfl, S.mask [true, true]⟩
  · refine wp_skip ?_
    refine then_n ?_
    refine wp_seq ?_
    refine wp_seq ?_
    refine wp_region_lit ?_
    refine wl_run orc_ok 3 rfl fr fun a fr => ?_
    refine wl_ldf orc_ok (Sat.stAt S 0 rfl rfl) fr rfl rfl rfl rfl rfl rfl rfl fun a fr => ?_
    refine wl_run orc_ok 1 rfl fr fun a fr => ?_
    refine wl_lk2 (f := (Value.int .i64)) orc_ok (0 : Int) zero3 rfl (fun _ => rfl) (Sat.mapAt S 1 rfl) fr rfl rfl rfl rfl rfl rfl rfl rfl fun a fr => ?_
    refine wl_run orc_ok 5 rfl fr fun a fr => ?_
    obtain ⟨y2, hx, h⟩ := lt_h h
    have fr := fr.spell (d := 6) rfl (congrArg Value.bool hx)
    refine wpList_nil ?_
    refine then_n ?_
    refine wp_seq ?_
    refine wp_region_lit ?_
    refine wl_run orc_ok 2 rfl fr fun a fr => ?_
    refine wpList_nil ?_
    refine then_n ?_
    refine cw_if fr rfl h (fun h => ?_) (fun h => ?_)
    · refine wp_seq ?_
      refine wp_region_lit ?_
      refine wl_run orc_ok 1 rfl fr fun a fr => ?_
      refine wpList_nil ?_
      refine then_n ?_
      refine wp_ret ?_
      refine then_r ?_
      have S : Sat w0 _ (mapA .u32 (Value.int .i64) g1001 r1.2.2 :: stA 26 g900 [(.int .i64 r1.2.1), (.map (some g1001))] :: R) := S.frontAt 1 rfl
      have S : Sat w0 _ (stA 26 g900 [(.int .i64 r1.2.1), (.map (some g1001))] :: mapA .u32 (Value.int .i64) g1001 r1.2.2 :: R) := S.frontAt 1 rfl
      injection h with h
      subst h
      refine ret1 fr rfl rfl ?_
      exact ⟨rfl, fr.vok (d := 4) rfl, S.mask [true, true]⟩
    · refine wp_skip ?_
      refine then_n ?_
      refine wp_seq ?_
      refine wp_region_lit ?_
      refine wl_run orc_ok 3 rfl fr fun a fr => ?_
      refine wl_ldf orc_ok (Sat.stAt S 0 rfl rfl) fr rfl rfl rfl rfl rfl rfl rfl fun a fr => ?_
      refine wl_run orc_ok 1 rfl fr fun a fr => ?_
      have S : Sat w0 _ (mapA .u32 (Value.int .i64) g1001 r1.2.2 :: stA 26 g900 [(.int .i64 r1.2.1), (.map (some g1001))] :: R) := S.frontAt 1 rfl
      refine wl_del orc_ok fr rfl rfl rfl rfl rfl rfl rfl rfl S ?_
      intro w S
      obtain ⟨p3, hx, h⟩ := lt_h h
      rw [hx] at S
      refine wpList_nil ?_
      refine then_n ?_
      refine wp_seq ?_
      refine wp_region_lit ?_
      refine wl_run orc_ok 1 rfl fr fun a fr => ?_
      refine wpList_nil ?_
      refine then_n ?_
      refine wp_ret ?_
      have S : Sat w0 _ (stA 26 g900 [(.int .i64 r1.2.1), (.map (some g1001))] :: mapA .u32 (Value.int .i64) g1001 p3 :: R) := S.frontAt 1 rfl
      injection h with h
      subst h
      refine ret1 fr rfl rfl ?_
      exact ⟨rfl, fr.vok (d := 4) rfl, S.mask [true, true]⟩
set_option maxRecDepth 100000 in
set_option maxHeartbeats 4000000 in
theorem alive.walk (k : Nat)  {w0 w : World} {R : List Asn}  (S : Sat w0 w R) {r : Bool} (h : alive.f k = some r) :
    Calls Try.prog 14 #[] w fun e w' => e = .returned (.bool r) ∧ vok (.bool r) = true ∧ Sat w0 w' R := by
  have key : ∀ w0 : World, w0 = w → Sat w0 w [] → Calls Try.prog 14 #[] w fun e w' => e = .returned (.bool r) ∧ vok (.bool r) = true ∧ Sat w0 w' [] := by
    clear S
    intro w0 hw S
    clear hw
    unfold alive.f at h
    refine calls_start (N := 92) [] Try.func14 rfl rfl rfl rfl fun a fr => ?_
    refine wp_seq ?_
    refine wp_region_lit ?_
    refine wl_run orc_ok 1 rfl fr fun a fr => ?_
    refine wpList_nil ?_
    refine then_n ?_
    refine wp_seq ?_
    refine wp_region_lit ?_
    refine wl_call fr rfl rfl rfl rfl en15 (clk_new S) ?_
    rintro _ w ⟨g2, g1, rfl, S⟩
    refine ⟨_, rfl, rfl, fun a fr => ?_⟩
    refine wl_run orc_ok 1 rfl fr fun a fr => ?_
    refine wpList_nil ?_
    refine then_n ?_
    refine wp_seq ?_
    refine wp_seq ?_
    refine wp_region_lit ?_
    refine wl_run orc_ok 4 rfl fr fun a fr => ?_
    have S : Sat w0 _ [mapA .u32 (Value.int .i64) g1 ([] : List (Int × Int)), stA 26 g2 [(.int .i64 (0 : Int)), (.map (some g1))]] := S.frontAt 1 rfl
    have S : Sat w0 _ [stA 26 g2 [(.int .i64 (0 : Int)), (.map (some g1))], mapA .u32 (Value.int .i64) g1 ([] : List (Int × Int))] := S.frontAt 1 rfl
    obtain ⟨r3, hr, h⟩ := bnd h
    refine wl_call fr rfl rfl rfl rfl en11 (Set.walk g2 (0 : Int) g1 ([] : List (Int × Int)) (7 : Int) (2 : Int) rfl rfl S hr) ?_
    rintro _ w ⟨rfl, hv, S⟩
    refine ⟨_, rfl, hv, fun a fr => ?_⟩
    refine wl_run orc_ok 3 rfl fr fun a fr => ?_
    refine wl_split 17 fr rfl h (fun fr h => ?_) (fun fr h => ?_)
    · refine wl_run orc_ok 9 rfl fr fun a fr => ?_
      refine wpList_nil ?_
      refine then_n ?_
      refine cw_t fr rfl ?_
      refine wp_seq ?_
      refine wp_region_lit ?_
      refine wl_run orc_ok 1 rfl fr fun a fr => ?_
      refine wpList_nil ?_
      refine then_n ?_
      refine wp_ret ?_
      refine then_r ?_
      injection h with h
      subst h
      refine ret1 fr rfl rfl ?_
      exact ⟨rfl, fr.vok (d := 0) rfl, S.mask [false, false]⟩
    · refine wl_run orc_ok 1 rfl fr fun a fr => ?_
      have S : Sat w0 _ [mapA .u32 (Value.int .i64) g1 r3.2.2, stA 26 g2 [(.int .i64 r3.2.1), (.map (some g1))]] := S.frontAt 1 rfl
      have S : Sat w0 _ [stA 26 g2 [(.int .i64 r3.2.1), (.map (some g1))], mapA .u32 (Value.int .i64) g1 r3.2.2] := S.frontAt 1 rfl
      obtain ⟨r4, hr, h⟩ := bnd h
      refine wl_call fr rfl rfl rfl rfl en11 (Set.walk g2 r3.2.1 g1 r3.2.2 (5 : Int) (2 : Int) rfl rfl S hr) ?_
      rintro _ w ⟨rfl, hv, S⟩
      refine ⟨_, rfl, hv, fun a fr => ?_⟩
      refine wl_run orc_ok 3 rfl fr fun a fr => ?_
      refine wl_split 22 fr rfl h (fun fr h => ?_) (fun fr h => ?_)
      · refine wl_run orc_ok 4 rfl fr fun a fr => ?_
        refine wpList_nil ?_
        refine then_n ?_
        refine cw_t fr rfl ?_
        refine wp_seq ?_
        refine wp_region_lit ?_
        refine wl_run orc_ok 1 rfl fr fun a fr => ?_
        refine wpList_nil ?_
        refine then_n ?_
        refine wp_ret ?_
        refine then_r ?_
        injection h with h
        subst h
        refine ret1 fr rfl rfl ?_
        exact ⟨rfl, fr.vok (d := 0) rfl, S.mask [false, false]⟩
      · refine wl_run orc_ok 1 rfl fr fun a fr => ?_
        have S : Sat w0 _ [mapA .u32 (Value.int .i64) g1 r4.2.2, stA 26 g2 [(.int .i64 r4.2.1), (.map (some g1))]] := S.frontAt 1 rfl
        have S : Sat w0 _ [stA 26 g2 [(.int .i64 r4.2.1), (.map (some g1))], mapA .u32 (Value.int .i64) g1 r4.2.2] := S.frontAt 1 rfl
        obtain ⟨r5, hr, h⟩ := bnd h
        refine wl_call fr rfl rfl rfl rfl en11 (Set.walk g2 r4.2.1 g1 r4.2.2 (6 : Int) (1 : Int) rfl rfl S hr) ?_
        rintro _ w ⟨rfl, hv, S⟩
        refine ⟨_, rfl, hv, fun a fr => ?_⟩
        refine wl_run orc_ok 2 rfl fr fun a fr => ?_
        refine wpList_nil ?_
        refine then_n ?_
        refine cw_if fr rfl h (fun h => ?_) (fun h => ?_)
        · refine wp_seq ?_
          refine wp_region_lit ?_
          refine wl_run orc_ok 1 rfl fr fun a fr => ?_
          refine wpList_nil ?_
          refine then_n ?_
          refine wp_ret ?_
          refine then_r ?_
          injection h with h
          subst h
          refine ret1 fr rfl rfl ?_
          exact ⟨rfl, fr.vok (d := 0) rfl, S.mask [false, false]⟩
        · refine wp_skip ?_
          refine then_n ?_
          refine wp_seq ?_
          refine wp_region_lit ?_
          refine wl_run orc_ok 1 rfl fr fun a fr => ?_
          have S : Sat w0 _ [mapA .u32 (Value.int .i64) g1 r5.2.2, stA 26 g2 [(.int .i64 r5.2.1), (.map (some g1))]] := S.frontAt 1 rfl
          have S : Sat w0 _ [stA 26 g2 [(.int .i64 r5.2.1), (.map (some g1))], mapA .u32 (Value.int .i64) g1 r5.2.2] := S.frontAt 1 rfl
          obtain ⟨r6, hr, h⟩ := bnd h
          refine wl_call fr rfl rfl rfl rfl en13 (Tick.walk k g2 r5.2.1 g1 r5.2.2 S hr) ?_
          rintro _ w ⟨A7, c8, rfl, hv, S⟩
          refine ⟨_, rfl, hv, fun a fr => ?_⟩
          refine wl_run orc_ok 1 rfl fr fun a fr => ?_
          refine wpList_nil ?_
          refine then_n ?_
          refine wp_seq ?_
          refine wp_region_lit ?_
          refine wl_run orc_ok 1 rfl fr fun a fr => ?_
          have S : Sat w0 _ [mapA .u32 (Value.int .i64) g1 r6.2.2, ownA .u32 22 A7 c8 r6.1, stA 26 g2 [(.int .i64 r6.2.1), (.map (some g1))]] := S.frontAt 2 rfl
          have S : Sat w0 _ [stA 26 g2 [(.int .i64 r6.2.1), (.map (some g1))], mapA .u32 (Value.int .i64) g1 r6.2.2, ownA .u32 22 A7 c8 r6.1] := S.frontAt 2 rfl
          obtain ⟨r9, hr, h⟩ := bnd h
          refine wl_call fr rfl rfl rfl rfl en10 (Left.walk g2 r6.2.1 g1 r6.2.2 (7 : Int) rfl S hr) ?_
          rintro _ w ⟨rfl, hv, S⟩
          refine ⟨_, rfl, hv, fun a fr => ?_⟩
          refine wl_run orc_ok 5 rfl fr fun a fr => ?_
          refine wpList_nil ?_
          refine then_n ?_
          refine wp_seq ?_
          refine wp_region_lit ?_
          refine wl_run orc_ok 1 rfl fr fun a fr => ?_
          have S : Sat w0 _ [mapA .u32 (Value.int .i64) g1 r9.2.2.2, stA 26 g2 [(.int .i64 r9.2.2.1), (.map (some g1))], ownA .u32 22 A7 c8 r6.1] := S.frontAt 1 rfl
          have S : Sat w0 _ [stA 26 g2 [(.int .i64 r9.2.2.1), (.map (some g1))], mapA .u32 (Value.int .i64) g1 r9.2.2.2, ownA .u32 22 A7 c8 r6.1] := S.frontAt 1 rfl
          obtain ⟨r10, hr, h⟩ := bnd h
          refine wl_call fr rfl rfl rfl rfl en13 (Tick.walk k g2 r9.2.2.1 g1 r9.2.2.2 S hr) ?_
          rintro _ w ⟨A11, c12, rfl, hv, S⟩
          refine ⟨_, rfl, hv, fun a fr => ?_⟩
          refine wl_run orc_ok 1 rfl fr fun a fr => ?_
          refine wpList_nil ?_
          refine then_n ?_
          refine wp_seq ?_
          refine wp_region_lit ?_
          refine wl_run orc_ok 1 rfl fr fun a fr => ?_
          have S : Sat w0 _ [mapA .u32 (Value.int .i64) g1 r10.2.2, ownA .u32 22 A11 c12 r10.1, stA 26 g2 [(.int .i64 r10.2.1), (.map (some g1))], ownA .u32 22 A7 c8 r6.1] := S.frontAt 2 rfl
          have S : Sat w0 _ [stA 26 g2 [(.int .i64 r10.2.1), (.map (some g1))], mapA .u32 (Value.int .i64) g1 r10.2.2, ownA .u32 22 A11 c12 r10.1, ownA .u32 22 A7 c8 r6.1] := S.frontAt 2 rfl
          obtain ⟨r13, hr, h⟩ := bnd h
          refine wl_call fr rfl rfl rfl rfl en10 (Left.walk g2 r10.2.1 g1 r10.2.2 (7 : Int) rfl S hr) ?_
          rintro _ w ⟨rfl, hv, S⟩
          refine ⟨_, rfl, hv, fun a fr => ?_⟩
          refine wl_run orc_ok 5 rfl fr fun a fr => ?_
          refine wpList_nil ?_
          refine then_n ?_
          refine wp_seq ?_
          refine wp_seq ?_
          refine wp_region_lit ?_
          refine wl_run orc_ok 1 rfl fr fun a fr => ?_
          refine wl_lit (xs := [(6 : Int)]) orc_ok lit33 fr rfl rfl rfl rfl ⟨rfl, rfl, trivial⟩ rfl rfl S ?_
          intro w A14 c15 S
          intro a fr
          obtain ⟨r16, hr, h⟩ := bnd h
          refine wl_call fr rfl rfl rfl rfl en16 (SameIds.walk k A7 c8 r6.1 A14 c15 [(6 : Int)] (Sat.ownAt S 4 rfl) (fr.slice (d := 41) rfl) (Sat.ownAt S 0 rfl) (fr.slice (d := 42) rfl) S hr) ?_
          rintro _ w ⟨rfl, hv, S⟩
          refine ⟨_, rfl, hv, fun a fr => ?_⟩
          refine wl_run orc_ok 2 rfl fr fun a fr => ?_
          refine wl_split 45 fr rfl h (fun fr h => ?_) (fun fr h => ?_)
          · refine wl_run orc_ok 26 rfl fr fun a fr => ?_
            refine wpList_nil ?_
            refine then_n ?_
            refine cw_t fr rfl ?_
            refine wp_seq ?_
            refine wp_region_lit ?_
            refine wl_run orc_ok 1 rfl fr fun a fr => ?_
            refine wpList_nil ?_
            refine then_n ?_
            refine wp_ret ?_
            refine then_r ?_
            injection h with h
            subst h
            refine ret1 fr rfl rfl ?_
            exact ⟨rfl, fr.vok (d := 0) rfl, S.mask [false, false, false, false, false]⟩
          · refine wl_run orc_ok 4 rfl fr fun a fr => ?_
            refine wl_split 49 fr rfl h (fun fr h => ?_) (fun fr h => ?_)
            · refine wl_run orc_ok 22 rfl fr fun a fr => ?_
              refine wpList_nil ?_
              refine then_n ?_
              refine cw_t fr rfl ?_
              refine wp_seq ?_
              refine wp_region_lit ?_
              refine wl_run orc_ok 1 rfl fr fun a fr => ?_
              refine wpList_nil ?_
              refine then_n ?_
              refine wp_ret ?_
              refine then_r ?_
              injection h with h
              subst h
              refine ret1 fr rfl rfl ?_
              exact ⟨rfl, fr.vok (d := 0) rfl, S.mask [false, false, false, false, false]⟩
            · refine wl_run orc_ok 4 rfl fr fun a fr => ?_
              refine wl_split 53 fr rfl h (fun fr h => ?_) (fun fr h => ?_)
              · refine wl_run orc_ok 18 rfl fr fun a fr => ?_
                refine wpList_nil ?_
                refine then_n ?_
                refine cw_t fr rfl ?_
                refine wp_seq ?_
                refine wp_region_lit ?_
                refine wl_run orc_ok 1 rfl fr fun a fr => ?_
                refine wpList_nil ?_
                refine then_n ?_
                refine wp_ret ?_
                refine then_r ?_
                injection h with h
                subst h
                refine ret1 fr rfl rfl ?_
                exact ⟨rfl, fr.vok (d := 0) rfl, S.mask [false, false, false, false, false]⟩
              · refine wl_run orc_ok 1 rfl fr fun a fr => ?_
                refine wl_lit (xs := [(5 : Int), (7 : Int)]) orc_ok lit33 fr rfl rfl rfl rfl ⟨rfl, rfl, rfl, rfl, trivial⟩ rfl rfl S ?_
                intro w A17 c18 S
                intro a fr
                obtain ⟨r19, hr, h⟩ := bnd h
                refine wl_call fr rfl rfl rfl rfl en16 (SameIds.walk k A11 c12 r10.1 A17 c18 [(5 : Int), (7 : Int)] (Sat.ownAt S 4 rfl) (fr.slice (d := 54) rfl) (Sat.ownAt S 0 rfl) (fr.slice (d := 55) rfl) S hr) ?_
                rintro _ w ⟨rfl, hv, S⟩
                refine ⟨_, rfl, hv, fun a fr => ?_⟩
                refine wl_run orc_ok 3 rfl fr fun a fr => ?_
                refine wl_split 59 fr rfl h (fun fr h => ?_) (fun fr h => ?_)
                · refine wl_run orc_ok 12 rfl fr fun a fr => ?_
                  refine wpList_nil ?_
                  refine then_n ?_
                  refine cw_t fr rfl ?_
                  refine wp_seq ?_
                  refine wp_region_lit ?_
                  refine wl_run orc_ok 1 rfl fr fun a fr => ?_
                  refine wpList_nil ?_
                  refine then_n ?_
                  refine wp_ret ?_
                  refine then_r ?_
                  injection h with h
                  subst h
                  refine ret1 fr rfl rfl ?_
                  exact ⟨rfl, fr.vok (d := 0) rfl, S.mask [false, false, false, false, false, false]⟩
                · refine wl_run orc_ok 3 rfl fr fun a fr => ?_
                  refine wl_split 62 fr rfl h (fun fr h => ?_) (fun fr h => ?_)
                  · refine wl_run orc_ok 9 rfl fr fun a fr => ?_
                    refine wpList_nil ?_
                    refine then_n ?_
                    refine cw_t fr rfl ?_
                    refine wp_seq ?_
                    refine wp_region_lit ?_
                    refine wl_run orc_ok 1 rfl fr fun a fr => ?_
                    refine wpList_nil ?_
                    refine then_n ?_
                    refine wp_ret ?_
                    refine then_r ?_
                    injection h with h
                    subst h
                    refine ret1 fr rfl rfl ?_
                    exact ⟨rfl, fr.vok (d := 0) rfl, S.mask [false, false, false, false, false, false]⟩
                  · refine wl_run orc_ok 1 rfl fr fun a fr => ?_
                    have S : Sat w0 _ [mapA .u32 (Value.int .i64) g1 r13.2.2.2, ownA .u32 22 A17 c18 [(5 : Int), (7 : Int)], ownA .u32 22 A14 c15 [(6 : Int)], stA 26 g2 [(.int .i64 r13.2.2.1), (.map (some g1))], ownA .u32 22 A11 c12 r10.1, ownA .u32 22 A7 c8 r6.1] := S.frontAt 3 rfl
                    have S : Sat w0 _ [stA 26 g2 [(.int .i64 r13.2.2.1), (.map (some g1))], mapA .u32 (Value.int .i64) g1 r13.2.2.2, ownA .u32 22 A17 c18 [(5 : Int), (7 : Int)], ownA .u32 22 A14 c15 [(6 : Int)], ownA .u32 22 A11 c12 r10.1, ownA .u32 22 A7 c8 r6.1] := S.frontAt 3 rfl
                    obtain ⟨r20, hr, h⟩ := bnd h
                    refine wl_call fr rfl rfl rfl rfl en11 (Set.walk g2 r13.2.2.1 g1 r13.2.2.2 (1 : Int) (3 : Int) rfl rfl S hr) ?_
                    rintro _ w ⟨rfl, hv, S⟩
                    refine ⟨_, rfl, hv, fun a fr => ?_⟩
                    refine wl_run orc_ok 3 rfl fr fun a fr => ?_
                    refine wl_split 67 fr rfl h (fun fr h => ?_) (fun fr h => ?_)
                    · refine wl_run orc_ok 4 rfl fr fun a fr => ?_
                      refine wpList_nil ?_
                      refine then_n ?_
                      refine cw_t fr rfl ?_
                      refine wp_seq ?_
                      refine wp_region_lit ?_
                      refine wl_run orc_ok 1 rfl fr fun a fr => ?_
                      refine wpList_nil ?_
                      refine then_n ?_
                      refine wp_ret ?_
                      refine then_r ?_
                      injection h with h
                      subst h
                      refine ret1 fr rfl rfl ?_
                      exact ⟨rfl, fr.vok (d := 0) rfl, S.mask [false, false, false, false, false, false]⟩
                    · refine wl_run orc_ok 1 rfl fr fun a fr => ?_
                      have S : Sat w0 _ [mapA .u32 (Value.int .i64) g1 r20.2.2, stA 26 g2 [(.int .i64 r20.2.1), (.map (some g1))], ownA .u32 22 A17 c18 [(5 : Int), (7 : Int)], ownA .u32 22 A14 c15 [(6 : Int)], ownA .u32 22 A11 c12 r10.1, ownA .u32 22 A7 c8 r6.1] := S.frontAt 1 rfl
                      have S : Sat w0 _ [stA 26 g2 [(.int .i64 r20.2.1), (.map (some g1))], mapA .u32 (Value.int .i64) g1 r20.2.2, ownA .u32 22 A17 c18 [(5 : Int), (7 : Int)], ownA .u32 22 A14 c15 [(6 : Int)], ownA .u32 22 A11 c12 r10.1, ownA .u32 22 A7 c8 r6.1] := S.frontAt 1 rfl
                      obtain ⟨r21, hr, h⟩ := bnd h
                      refine wl_call fr rfl rfl rfl rfl en11 (Set.walk g2 r20.2.1 g1 r20.2.2 (1 : Int) (1 : Int) rfl rfl S hr) ?_
                      rintro _ w ⟨rfl, hv, S⟩
                      refine ⟨_, rfl, hv, fun a fr => ?_⟩
                      refine wl_run orc_ok 2 rfl fr fun a fr => ?_
                      refine wpList_nil ?_
                      refine then_n ?_
                      refine cw_if fr rfl h (fun h => ?_) (fun h => ?_)
                      · refine wp_seq ?_
                        refine wp_region_lit ?_
                        refine wl_run orc_ok 1 rfl fr fun a fr => ?_
                        refine wpList_nil ?_
                        refine then_n ?_
                        refine wp_ret ?_
                        refine then_r ?_
                        injection h with h
                        subst h
                        refine ret1 fr rfl rfl ?_
                        exact ⟨rfl, fr.vok (d := 0) rfl, S.mask [false, false, false, false, false, false]⟩
                      · refine wp_skip ?_
                        refine then_n ?_
                        refine wp_seq ?_
                        refine wp_region_lit ?_
                        refine wl_run orc_ok 1 rfl fr fun a fr => ?_
                        have S : Sat w0 _ [mapA .u32 (Value.int .i64) g1 r21.2.2, stA 26 g2 [(.int .i64 r21.2.1), (.map (some g1))], ownA .u32 22 A17 c18 [(5 : Int), (7 : Int)], ownA .u32 22 A14 c15 [(6 : Int)], ownA .u32 22 A11 c12 r10.1, ownA .u32 22 A7 c8 r6.1] := S.frontAt 1 rfl
                        have S : Sat w0 _ [stA 26 g2 [(.int .i64 r21.2.1), (.map (some g1))], mapA .u32 (Value.int .i64) g1 r21.2.2, ownA .u32 22 A17 c18 [(5 : Int), (7 : Int)], ownA .u32 22 A14 c15 [(6 : Int)], ownA .u32 22 A11 c12 r10.1, ownA .u32 22 A7 c8 r6.1] := S.frontAt 1 rfl
                        obtain ⟨r22, hr, h⟩ := bnd h
                        refine wl_call fr rfl rfl rfl rfl en13 (Tick.walk k g2 r21.2.1 g1 r21.2.2 S hr) ?_
                        rintro _ w ⟨A23, c24, rfl, hv, S⟩
                        refine ⟨_, rfl, hv, fun a fr => ?_⟩
                        refine wl_run orc_ok 1 rfl fr fun a fr => ?_
                        refine wpList_nil ?_
                        refine then_n ?_
                        refine wp_seq ?_
                        refine wp_region_lit ?_
                        refine wl_run orc_ok 1 rfl fr fun a fr => ?_
                        refine wl_lit (xs := [(1 : Int)]) orc_ok lit33 fr rfl rfl rfl rfl ⟨rfl, rfl, trivial⟩ rfl rfl S ?_
                        intro w A25 c26 S
                        intro a fr
                        obtain ⟨r27, hr, h⟩ := bnd h
                        refine wl_call fr rfl rfl rfl rfl en16 (SameIds.walk k A23 c24 r22.1 A25 c26 [(1 : Int)] (Sat.ownAt S 1 rfl) (fr.slice (d := 74) rfl) (Sat.ownAt S 0 rfl) (fr.slice (d := 75) rfl) S hr) ?_
                        rintro _ w ⟨rfl, hv, S⟩
                        refine ⟨_, rfl, hv, fun a fr => ?_⟩
                        refine wl_run orc_ok 1 rfl fr fun a fr => ?_
                        refine wl_split 77 fr rfl h (fun fr h => ?_) (fun fr h => ?_)
                        · refine wl_run orc_ok 1 rfl fr fun a fr => ?_
                          have S : Sat w0 _ [mapA .u32 (Value.int .i64) g1 r22.2.2, ownA .u32 22 A25 c26 [(1 : Int)], ownA .u32 22 A23 c24 r22.1, stA 26 g2 [(.int .i64 r22.2.1), (.map (some g1))], ownA .u32 22 A17 c18 [(5 : Int), (7 : Int)], ownA .u32 22 A14 c15 [(6 : Int)], ownA .u32 22 A11 c12 r10.1, ownA .u32 22 A7 c8 r6.1] := S.frontAt 3 rfl
                          have S : Sat w0 _ [stA 26 g2 [(.int .i64 r22.2.1), (.map (some g1))], mapA .u32 (Value.int .i64) g1 r22.2.2, ownA .u32 22 A25 c26 [(1 : Int)], ownA .u32 22 A23 c24 r22.1, ownA .u32 22 A17 c18 [(5 : Int), (7 : Int)], ownA .u32 22 A14 c15 [(6 : Int)], ownA .u32 22 A11 c12 r10.1, ownA .u32 22 A7 c8 r6.1] := S.frontAt 3 rfl
                          obtain ⟨r28, hr, h⟩ := bnd h
                          refine wl_call fr rfl rfl rfl rfl en12 (Clear.walk g2 r22.2.1 g1 r22.2.2 (1 : Int) rfl S hr) ?_
                          rintro _ w ⟨rfl, hv, S⟩
                          refine ⟨_, rfl, hv, fun a fr => ?_⟩
                          refine wl_run orc_ok 3 rfl fr fun a fr => ?_
                          refine wl_split 82 fr rfl h (fun fr h => ?_) (fun fr h => ?_)
                          · refine wl_run orc_ok 1 rfl fr fun a fr => ?_
                            have S : Sat w0 _ [mapA .u32 (Value.int .i64) g1 r28.2.2, stA 26 g2 [(.int .i64 r28.2.1), (.map (some g1))], ownA .u32 22 A25 c26 [(1 : Int)], ownA .u32 22 A23 c24 r22.1, ownA .u32 22 A17 c18 [(5 : Int), (7 : Int)], ownA .u32 22 A14 c15 [(6 : Int)], ownA .u32 22 A11 c12 r10.1, ownA .u32 22 A7 c8 r6.1] := S.frontAt 1 rfl
                            have S : Sat w0 _ [stA 26 g2 [(.int .i64 r28.2.1), (.map (some g1))], mapA .u32 (Value.int .i64) g1 r28.2.2, ownA .u32 22 A25 c26 [(1 : Int)], ownA .u32 22 A23 c24 r22.1, ownA .u32 22 A17 c18 [(5 : Int), (7 : Int)], ownA .u32 22 A14 c15 [(6 : Int)], ownA .u32 22 A11 c12 r10.1, ownA .u32 22 A7 c8 r6.1] := S.frontAt 1 rfl
                            obtain ⟨r29, hr, h⟩ := bnd h
                            refine wl_call fr rfl rfl rfl rfl en11 (Set.walk g2 r28.2.1 g1 r28.2.2 (1 : Int) (0 : Int) rfl rfl S hr) ?_
                            rintro _ w ⟨rfl, hv, S⟩
                            refine ⟨_, rfl, hv, fun a fr => ?_⟩
                            refine wl_run orc_ok 3 rfl fr fun a fr => ?_
                            refine wl_split 87 fr rfl h (fun fr h => ?_) (fun fr h => ?_)
                            · refine wl_run orc_ok 1 rfl fr fun a fr => ?_
                              have S : Sat w0 _ [mapA .u32 (Value.int .i64) g1 r29.2.2, stA 26 g2 [(.int .i64 r29.2.1), (.map (some g1))], ownA .u32 22 A25 c26 [(1 : Int)], ownA .u32 22 A23 c24 r22.1, ownA .u32 22 A17 c18 [(5 : Int), (7 : Int)], ownA .u32 22 A14 c15 [(6 : Int)], ownA .u32 22 A11 c12 r10.1, ownA .u32 22 A7 c8 r6.1] := S.frontAt 1 rfl
                              have S : Sat w0 _ [stA 26 g2 [(.int .i64 r29.2.1), (.map (some g1))], mapA .u32 (Value.int .i64) g1 r29.2.2, ownA .u32 22 A25 c26 [(1 : Int)], ownA .u32 22 A23 c24 r22.1, ownA .u32 22 A17 c18 [(5 : Int), (7 : Int)], ownA .u32 22 A14 c15 [(6 : Int)], ownA .u32 22 A11 c12 r10.1, ownA .u32 22 A7 c8 r6.1] := S.frontAt 1 rfl
                              obtain ⟨r30, hr, h⟩ := bnd h
                              refine wl_call fr rfl rfl rfl rfl en11 (Set.walk g2 r29.2.1 g1 r29.2.2 (1 : Int) (1073741825 : Int) rfl rfl S hr) ?_
                              rintro _ w ⟨rfl, hv, S⟩
                              refine ⟨_, rfl, hv, fun a fr => ?_⟩
                              refine wl_run orc_ok 3 rfl fr fun a fr => ?_
                              refine wpList_nil ?_
                              refine then_n ?_
                              refine wp_ret ?_
                              injection h with h
                              subst h
                              refine ret1 fr rfl rfl ?_
                              exact ⟨rfl, fr.vok (d := 0) rfl, S.mask [false, false, false, false, false, false, false, false]⟩
                            · refine wl_run orc_ok 5 rfl fr fun a fr => ?_
                              refine wpList_nil ?_
                              refine then_n ?_
                              refine wp_ret ?_
                              injection h with h
                              subst h
                              refine ret1 fr rfl rfl ?_
                              exact ⟨rfl, fr.vok (d := 0) rfl, S.mask [false, false, false, false, false, false, false, false]⟩
                          · refine wl_run orc_ok 10 rfl fr fun a fr => ?_
                            refine wpList_nil ?_
                            refine then_n ?_
                            refine wp_ret ?_
                            injection h with h
                            subst h
                            refine ret1 fr rfl rfl ?_
                            exact ⟨rfl, fr.vok (d := 0) rfl, S.mask [false, false, false, false, false, false, false, false]⟩
                        · refine wl_run orc_ok 15 rfl fr fun a fr => ?_
                          refine wpList_nil ?_
                          refine then_n ?_
                          refine wp_ret ?_
                          injection h with h
                          subst h
                          refine ret1 fr rfl rfl ?_
                          exact ⟨rfl, fr.vok (d := 0) rfl, S.mask [false, false, false, false, false, false, false, false]⟩
  exact (key w rfl (Sat.start w)).mono fun e w' ⟨h1, h2, h3⟩ => ⟨h1, h2, S.new h3.below⟩
set_option maxRecDepth 100000 in
set_option maxHeartbeats 4000000 in
theorem ClocksShift.walk (k : Nat) (a0 : Int) (A1 : Option Addr) (c1 : Nat) (l1 : List Int) {w0 w : World} {R : List Asn} (v0 : (Lit.int .u8 a0).wf = true) (rk1 : Rk .u8 w A1 l1) (m1 : l1.length ≤ c1 ∧ c1 ≤ maxLen) (S : Sat w0 w R) {r : Bool} (h : ClocksShift.f k a0 l1 = some r) :
    Calls Try.prog 9 #[(.int .u8 a0), (.slice A1 (List.length l1) c1)] w fun e w' => e = .returned (.bool r) ∧ vok (.bool r) = true ∧ Sat w0 w' R := by
  have key : ∀ w0 : World, w0 = w → Sat w0 w [] → Calls Try.prog 9 #[(.int .u8 a0), (.slice A1 (List.length l1) c1)] w fun e w' => e = .returned (.bool r) ∧ vok (.bool r) = true ∧ Sat w0 w' [] := by
    clear S
    intro w0 hw S
    rw [← hw] at rk1
    clear hw
    unfold ClocksShift.f at h
    refine calls_start (N := 79) [(.int .u8 a0), (.slice A1 (List.length l1) c1)] Try.func9 rfl rfl rfl (vok_c v0 (vok_c (vok_sl m1) rfl)) fun a fr => ?_
    refine wp_seq ?_
    refine wp_region_lit ?_
    refine wl_run orc_ok 1 rfl fr fun a fr => ?_
    refine wpList_nil ?_
    refine then_n ?_
    refine wp_seq ?_
    refine wp_seq ?_
    refine wp_region_lit ?_
    obtain ⟨r1, hr, h⟩ := bnd h
    refine wl_call fr rfl rfl rfl rfl en14 (alive.walk k  S hr) ?_
    rintro _ w ⟨rfl, hv, S⟩
    refine ⟨_, rfl, hv, fun a fr => ?_⟩
    refine wl_run orc_ok 2 rfl fr fun a fr => ?_
    refine wl_split 15 fr rfl h (fun fr h => ?_) (fun fr h => ?_)
    · refine wl_run orc_ok 4 rfl fr fun a fr => ?_
      refine wpList_nil ?_
      refine then_n ?_
      refine cw_t fr rfl ?_
      refine wp_seq ?_
      refine wp_region_lit ?_
      obtain ⟨r2, hr, h⟩ := bnd h
      refine wl_call fr rfl rfl rfl rfl en14 (alive.walk k  S hr) ?_
      rintro _ w ⟨rfl, hv, S⟩
      refine ⟨_, rfl, hv, fun a fr => ?_⟩
      refine wl_run orc_ok 1 rfl fr fun a fr => ?_
      refine wpList_nil ?_
      refine then_n ?_
      refine wp_ret ?_
      refine then_r ?_
      injection h with h
      subst h
      refine ret1 fr rfl rfl ?_
      exact ⟨rfl, fr.vok (d := 4) rfl, S.mask []⟩
    · refine wl_run orc_ok 4 rfl fr fun a fr => ?_
      refine wpList_nil ?_
      refine then_n ?_
      refine cw_if fr rfl h (fun h => ?_) (fun h => ?_)
      · refine wp_seq ?_
        refine wp_region_lit ?_
        obtain ⟨r3, hr, h⟩ := bnd h
        refine wl_call fr rfl rfl rfl rfl en14 (alive.walk k  S hr) ?_
        rintro _ w ⟨rfl, hv, S⟩
        refine ⟨_, rfl, hv, fun a fr => ?_⟩
        refine wl_run orc_ok 1 rfl fr fun a fr => ?_
        refine wpList_nil ?_
        refine then_n ?_
        refine wp_ret ?_
        refine then_r ?_
        injection h with h
        subst h
        refine ret1 fr rfl rfl ?_
        exact ⟨rfl, fr.vok (d := 4) rfl, S.mask []⟩
      · refine wp_skip ?_
        refine then_n ?_
        refine wp_seq ?_
        refine wp_region_lit ?_
        refine wl_call fr rfl rfl rfl rfl en15 (clk_new S) ?_
        rintro _ w ⟨g5, g4, rfl, S⟩
        refine ⟨_, rfl, rfl, fun a fr => ?_⟩
        refine wl_run orc_ok 1 rfl fr fun a fr => ?_
        refine wpList_nil ?_
        refine then_n ?_
        refine wp_seq ?_
        refine wp_region_lit ?_
        refine wl_call fr rfl rfl rfl rfl en15 (clk_new S) ?_
        rintro _ w ⟨g7, g6, rfl, S⟩
        refine ⟨_, rfl, rfl, fun a fr => ?_⟩
        refine wl_run orc_ok 1 rfl fr fun a fr => ?_
        refine wpList_nil ?_
        refine then_n ?_
        refine wp_seq ?_
        refine wp_seq ?_
        refine wp_region_lit ?_
        refine wl_run orc_ok 1 rfl fr fun a fr => ?_
        refine wpList_nil ?_
        refine then_n ?_
        refine wp_block ?_
        refine cw_loop (fun k1 a w => ∃ x8 : Int, ∃ p9 : List (Int × Int), ∃ x10 : Int, Fr 79 a [(0, (.int .u8 a0)), (1, (.slice A1 (List.length l1) c1)), (5, (.pointer (some ⟨g5, 0, none⟩))), (6, (.pointer (some ⟨g7, 0, none⟩))), (7, (.int .i64 x10))] ∧ Sat w0 w [stA 26 g7 [(.int .i64 (0 : Int)), (.map (some g6))], mapA .u32 (Value.int .i64) g6 ([] : List (Int × Int)), stA 26 g5 [(.int .i64 x8), (.map (some g4))], mapA .u32 (Value.int .i64) g4 p9] ∧ (ClocksShift.l1 k1 a0 l1 x8 p9 x10) = some r) k ⟨(0 : Int), ([] : List (Int × Int)), (0 : Int), fr.sub ⟨rfl, rfl, rfl, rfl, rfl, trivial⟩, S, h⟩ ?_ ?_
        · rintro a w ⟨x8, p9, x10, -, -, h⟩
          simp only [ClocksShift.l1] at h
          cases h
        · rintro k1 a w ⟨x8, p9, x10, fr, S, h⟩
          rw [ClocksShift.l1] at h
          refine wp_seq ?_
          refine wp_seq ?_
          refine wp_region_lit ?_
          refine wl_run orc_ok 4 rfl fr fun a fr => ?_
          refine wpList_nil ?_
          refine then_n ?_
          refine cw_if fr rfl h (fun h => ?_) (fun h => ?_)
          · refine wp_skip ?_
            refine then_n ?_
            refine wp_seq ?_
            refine wp_block ?_
            refine wp_seq ?_
            refine wp_region_lit ?_
            refine wl_run orc_ok 1 rfl fr fun a fr => ?_
            have S : Sat w0 _ [mapA .u32 (Value.int .i64) g4 p9, stA 26 g7 [(.int .i64 (0 : Int)), (.map (some g6))], mapA .u32 (Value.int .i64) g6 ([] : List (Int × Int)), stA 26 g5 [(.int .i64 x8), (.map (some g4))]] := S.frontAt 3 rfl
            have S : Sat w0 _ [stA 26 g5 [(.int .i64 x8), (.map (some g4))], mapA .u32 (Value.int .i64) g4 p9, stA 26 g7 [(.int .i64 (0 : Int)), (.map (some g6))], mapA .u32 (Value.int .i64) g6 ([] : List (Int × Int))] := S.frontAt 3 rfl
            obtain ⟨r14, hr, h⟩ := bnd h
            refine wl_call fr rfl rfl rfl rfl en13 (Tick.walk k1 g5 x8 g4 p9 S hr) ?_
            rintro _ w ⟨A15, c16, rfl, hv, S⟩
            refine ⟨_, rfl, hv, fun a fr => ?_⟩
            refine wl_run orc_ok 2 rfl fr fun a fr => ?_
            refine wpList_nil ?_
            refine then_n ?_
            refine cw_if fr rfl h (fun h => ?_) (fun h => ?_)
            · cases h
            · refine wp_skip ?_
              refine blk_n ?_
              refine then_n ?_
              refine wp_region_lit ?_
              refine wl_run orc_ok 3 rfl fr fun a fr => ?_
              refine wpList_nil ?_
              have S : Sat w0 _ [stA 26 g5 [(.int .i64 r14.2.1), (.map (some g4))], mapA .u32 (Value.int .i64) g4 r14.2.2, stA 26 g7 [(.int .i64 (0 : Int)), (.map (some g6))], mapA .u32 (Value.int .i64) g6 ([] : List (Int × Int))] := S.mask [false, true, true, true, true]
              have S : Sat w0 _ [mapA .u32 (Value.int .i64) g4 r14.2.2, stA 26 g5 [(.int .i64 r14.2.1), (.map (some g4))], stA 26 g7 [(.int .i64 (0 : Int)), (.map (some g6))], mapA .u32 (Value.int .i64) g6 ([] : List (Int × Int))] := S.frontAt 1 rfl
              have S : Sat w0 _ [stA 26 g5 [(.int .i64 r14.2.1), (.map (some g4))], mapA .u32 (Value.int .i64) g4 r14.2.2, stA 26 g7 [(.int .i64 (0 : Int)), (.map (some g6))], mapA .u32 (Value.int .i64) g6 ([] : List (Int × Int))] := S.frontAt 1 rfl
              have S : Sat w0 _ [mapA .u32 (Value.int .i64) g6 ([] : List (Int × Int)), stA 26 g5 [(.int .i64 r14.2.1), (.map (some g4))], mapA .u32 (Value.int .i64) g4 r14.2.2, stA 26 g7 [(.int .i64 (0 : Int)), (.map (some g6))]] := S.frontAt 3 rfl
              have S : Sat w0 _ [stA 26 g7 [(.int .i64 (0 : Int)), (.map (some g6))], mapA .u32 (Value.int .i64) g6 ([] : List (Int × Int)), stA 26 g5 [(.int .i64 r14.2.1), (.map (some g4))], mapA .u32 (Value.int .i64) g4 r14.2.2] := S.frontAt 3 rfl
              exact ⟨r14.2.1, r14.2.2, (IntKind.wrap .i64 (x10 + (1 : Int))), fr.sub ⟨rfl, rfl, rfl, rfl, rfl, trivial⟩, S, h⟩
          · refine wp_exit ?_
            refine then_e ?_
            refine then_e ?_
            refine blk_y ?_
            refine then_n ?_
            refine wp_seq ?_
            refine wp_seq ?_
            refine wp_region_lit ?_
            refine wl_run orc_ok 1 rfl fr fun a fr => ?_
            refine wpList_nil ?_
            refine then_n ?_
            refine wp_block ?_
            refine cw_loop (fun k2 a w => ∃ x17 : Int, ∃ p18 : List (Int × Int), ∃ x19 : Int, ∃ p20 : List (Int × Int), ∃ x21 : Int, Fr 79 a [(1, (.slice A1 (List.length l1) c1)), (5, (.pointer (some ⟨g5, 0, none⟩))), (6, (.pointer (some ⟨g7, 0, none⟩))), (8, (.int .i64 x21))] ∧ Sat w0 w [stA 26 g7 [(.int .i64 x17), (.map (some g6))], mapA .u32 (Value.int .i64) g6 p18, stA 26 g5 [(.int .i64 x19), (.map (some g4))], mapA .u32 (Value.int .i64) g4 p20] ∧ (ClocksShift.l2 k2 l1 x17 p18 x19 p20 x21) = some r) k1 ⟨(0 : Int), ([] : List (Int × Int)), x8, p9, (0 : Int), fr.sub ⟨rfl, rfl, rfl, rfl, trivial⟩, S, h⟩ ?_ ?_
            · rintro a w ⟨x17, p18, x19, p20, x21, -, -, h⟩
              simp only [ClocksShift.l2] at h
              cases h
            · rintro k2 a w ⟨x17, p18, x19, p20, x21, fr, S, h⟩
              rw [ClocksShift.l2] at h
              refine wp_seq ?_
              refine wp_seq ?_
              refine wp_region_lit ?_
              refine wl_run orc_ok 4 rfl fr fun a fr => ?_
              refine wpList_nil ?_
              refine then_n ?_
              refine cw_if fr rfl h (fun h => ?_) (fun h => ?_)
              · refine wp_skip ?_
                refine then_n ?_
                refine wp_seq ?_
                refine wp_block ?_
                refine wp_seq ?_
                refine wp_region_lit ?_
                refine wl_run orc_ok 2 rfl fr fun a fr => ?_
                obtain ⟨hc, h⟩ := ifs h
                refine wl_ld orc_ok (Rk.at rk1 S) fr rfl rfl rfl rfl rfl rfl rfl rfl rfl rfl rfl rfl rfl rfl rfl rfl hc fun a fr => ?_
                refine wl_run orc_ok 4 rfl fr fun a fr => ?_
                obtain ⟨y27, hx, h⟩ := lt_h h
                have fr := fr.spell (d := 9) rfl (congrArg (Value.int .i64) hx)
                refine wpList_nil ?_
                refine then_n ?_
                refine wp_seq ?_
                refine wp_region_lit ?_
                refine wl_run orc_ok 5 rfl fr fun a fr => ?_
                have S : Sat w0 _ [mapA .u32 (Value.int .i64) g4 p20, stA 26 g7 [(.int .i64 x17), (.map (some g6))], mapA .u32 (Value.int .i64) g6 p18, stA 26 g5 [(.int .i64 x19), (.map (some g4))]] := S.frontAt 3 rfl
                have S : Sat w0 _ [stA 26 g5 [(.int .i64 x19), (.map (some g4))], mapA .u32 (Value.int .i64) g4 p20, stA 26 g7 [(.int .i64 x17), (.map (some g6))], mapA .u32 (Value.int .i64) g6 p18] := S.frontAt 3 rfl
                obtain ⟨r28, hr, h⟩ := bnd h
                refine wl_call fr rfl rfl rfl rfl en11 (Set.walk g5 x19 g4 p20 (IntKind.wrap .u32 (Int.tmod x21 (7 : Int))) y27 (fr.int (d := 49) rfl) (fr.int (d := 50) rfl) S hr) ?_
                rintro _ w ⟨rfl, hv, S⟩
                refine ⟨_, rfl, hv, fun a fr => ?_⟩
                refine wl_run orc_ok 2 rfl fr fun a fr => ?_
                refine wl_split 53 fr rfl h (fun fr h => ?_) (fun fr h => ?_)
                · cases h
                · refine wl_run orc_ok 5 rfl fr fun a fr => ?_
                  have S : Sat w0 _ [mapA .u32 (Value.int .i64) g6 p18, stA 26 g5 [(.int .i64 r28.2.1), (.map (some g4))], mapA .u32 (Value.int .i64) g4 r28.2.2, stA 26 g7 [(.int .i64 x17), (.map (some g6))]] := S.frontAt 3 rfl
                  have S : Sat w0 _ [stA 26 g7 [(.int .i64 x17), (.map (some g6))], mapA .u32 (Value.int .i64) g6 p18, stA 26 g5 [(.int .i64 r28.2.1), (.map (some g4))], mapA .u32 (Value.int .i64) g4 r28.2.2] := S.frontAt 3 rfl
                  obtain ⟨r29, hr, h⟩ := bnd h
                  refine wl_call fr rfl rfl rfl rfl en11 (Set.walk g7 x17 g6 p18 (IntKind.wrap .u32 (Int.tmod x21 (7 : Int))) y27 (fr.int (d := 57) rfl) (fr.int (d := 58) rfl) S hr) ?_
                  rintro _ w ⟨rfl, hv, S⟩
                  refine ⟨_, rfl, hv, fun a fr => ?_⟩
                  refine wl_run orc_ok 2 rfl fr fun a fr => ?_
                  refine wpList_nil ?_
                  refine then_n ?_
                  refine cw_if fr rfl h (fun h => ?_) (fun h => ?_)
                  · cases h
                  · refine wp_skip ?_
                    refine blk_n ?_
                    refine then_n ?_
                    refine wp_region_lit ?_
                    refine wl_run orc_ok 3 rfl fr fun a fr => ?_
                    refine wpList_nil ?_
                    exact ⟨r29.2.1, r29.2.2, r28.2.1, r28.2.2, (IntKind.wrap .i64 (x21 + (1 : Int))), fr.sub ⟨rfl, rfl, rfl, rfl, trivial⟩, S, h⟩
              · refine wp_exit ?_
                refine then_e ?_
                refine then_e ?_
                refine blk_y ?_
                refine then_n ?_
                refine wp_seq ?_
                refine wp_seq ?_
                refine wp_region_lit ?_
                refine wl_run orc_ok 1 rfl fr fun a fr => ?_
                refine wpList_nil ?_
                refine then_n ?_
                refine wp_block ?_
                refine cw_loop (fun k3 a w => ∃ x30 : Int, ∃ p31 : List (Int × Int), ∃ x32 : Int, ∃ p33 : List (Int × Int), ∃ x34 : Int, Fr 79 a [(5, (.pointer (some ⟨g5, 0, none⟩))), (6, (.pointer (some ⟨g7, 0, none⟩))), (10, (.int .i64 x34))] ∧ Sat w0 w [stA 26 g7 [(.int .i64 x30), (.map (some g6))], mapA .u32 (Value.int .i64) g6 p31, stA 26 g5 [(.int .i64 x32), (.map (some g4))], mapA .u32 (Value.int .i64) g4 p33] ∧ (ClocksShift.l3 k3 x30 p31 x32 p33 x34) = some r) k2 ⟨x17, p18, x19, p20, (0 : Int), fr.sub ⟨rfl, rfl, rfl, trivial⟩, S, h⟩ ?_ ?_
                · rintro a w ⟨x30, p31, x32, p33, x34, -, -, h⟩
                  simp only [ClocksShift.l3] at h
                  cases h
                · rintro k3 a w ⟨x30, p31, x32, p33, x34, fr, S, h⟩
                  rw [ClocksShift.l3] at h
                  refine wp_seq ?_
                  refine wp_seq ?_
                  refine wp_region_lit ?_
                  refine wl_run orc_ok 2 rfl fr fun a fr => ?_
                  refine wpList_nil ?_
                  refine then_n ?_
                  refine cw_if fr rfl h (fun h => ?_) (fun h => ?_)
                  · refine wp_skip ?_
                    refine then_n ?_
                    refine wp_seq ?_
                    refine wp_block ?_
                    refine wp_seq ?_
                    refine wp_region_lit ?_
                    refine wl_run orc_ok 1 rfl fr fun a fr => ?_
                    have S : Sat w0 _ [mapA .u32 (Value.int .i64) g4 p33, stA 26 g7 [(.int .i64 x30), (.map (some g6))], mapA .u32 (Value.int .i64) g6 p31, stA 26 g5 [(.int .i64 x32), (.map (some g4))]] := S.frontAt 3 rfl
                    have S : Sat w0 _ [stA 26 g5 [(.int .i64 x32), (.map (some g4))], mapA .u32 (Value.int .i64) g4 p33, stA 26 g7 [(.int .i64 x30), (.map (some g6))], mapA .u32 (Value.int .i64) g6 p31] := S.frontAt 3 rfl
                    obtain ⟨r40, hr, h⟩ := bnd h
                    refine wl_call fr rfl rfl rfl rfl en13 (Tick.walk k3 g5 x32 g4 p33 S hr) ?_
                    rintro _ w ⟨A41, c42, rfl, hv, S⟩
                    refine ⟨_, rfl, hv, fun a fr => ?_⟩
                    refine wl_run orc_ok 1 rfl fr fun a fr => ?_
                    have S : Sat w0 _ [mapA .u32 (Value.int .i64) g6 p31, ownA .u32 22 A41 c42 r40.1, stA 26 g5 [(.int .i64 r40.2.1), (.map (some g4))], mapA .u32 (Value.int .i64) g4 r40.2.2, stA 26 g7 [(.int .i64 x30), (.map (some g6))]] := S.frontAt 4 rfl
                    have S : Sat w0 _ [stA 26 g7 [(.int .i64 x30), (.map (some g6))], mapA .u32 (Value.int .i64) g6 p31, ownA .u32 22 A41 c42 r40.1, stA 26 g5 [(.int .i64 r40.2.1), (.map (some g4))], mapA .u32 (Value.int .i64) g4 r40.2.2] := S.frontAt 4 rfl
                    obtain ⟨r43, hr, h⟩ := bnd h
                    refine wl_call fr rfl rfl rfl rfl en13 (Tick.walk k3 g7 x30 g6 p31 S hr) ?_
                    rintro _ w ⟨A44, c45, rfl, hv, S⟩
                    refine ⟨_, rfl, hv, fun a fr => ?_⟩
                    obtain ⟨r46, hr, h⟩ := bnd h
                    refine wl_call fr rfl rfl rfl rfl en16 (SameIds.walk k3 A41 c42 r40.1 A44 c45 r43.1 (Sat.ownAt S 3 rfl) (fr.slice (d := 67) rfl) (Sat.ownAt S 0 rfl) (fr.slice (d := 69) rfl) S hr) ?_
                    rintro _ w ⟨rfl, hv, S⟩
                    refine ⟨_, rfl, hv, fun a fr => ?_⟩
                    refine wl_run orc_ok 1 rfl fr fun a fr => ?_
                    refine wpList_nil ?_
                    refine then_n ?_
                    refine cw_if fr rfl h (fun h => ?_) (fun h => ?_)
                    · cases h
                    · refine wp_skip ?_
                      refine blk_n ?_
                      refine then_n ?_
                      refine wp_region_lit ?_
                      refine wl_run orc_ok 3 rfl fr fun a fr => ?_
                      refine wpList_nil ?_
                      have S : Sat w0 _ [stA 26 g7 [(.int .i64 r43.2.1), (.map (some g6))], mapA .u32 (Value.int .i64) g6 r43.2.2, stA 26 g5 [(.int .i64 r40.2.1), (.map (some g4))], mapA .u32 (Value.int .i64) g4 r40.2.2] := S.mask [false, true, true, false, true, true]
                      have S : Sat w0 _ [mapA .u32 (Value.int .i64) g4 r40.2.2, stA 26 g7 [(.int .i64 r43.2.1), (.map (some g6))], mapA .u32 (Value.int .i64) g6 r43.2.2, stA 26 g5 [(.int .i64 r40.2.1), (.map (some g4))]] := S.frontAt 3 rfl
                      have S : Sat w0 _ [stA 26 g5 [(.int .i64 r40.2.1), (.map (some g4))], mapA .u32 (Value.int .i64) g4 r40.2.2, stA 26 g7 [(.int .i64 r43.2.1), (.map (some g6))], mapA .u32 (Value.int .i64) g6 r43.2.2] := S.frontAt 3 rfl
                      have S : Sat w0 _ [mapA .u32 (Value.int .i64) g6 r43.2.2, stA 26 g5 [(.int .i64 r40.2.1), (.map (some g4))], mapA .u32 (Value.int .i64) g4 r40.2.2, stA 26 g7 [(.int .i64 r43.2.1), (.map (some g6))]] := S.frontAt 3 rfl
                      have S : Sat w0 _ [stA 26 g7 [(.int .i64 r43.2.1), (.map (some g6))], mapA .u32 (Value.int .i64) g6 r43.2.2, stA 26 g5 [(.int .i64 r40.2.1), (.map (some g4))], mapA .u32 (Value.int .i64) g4 r40.2.2] := S.frontAt 3 rfl
                      exact ⟨r43.2.1, r43.2.2, r40.2.1, r40.2.2, (IntKind.wrap .i64 (x34 + (1 : Int))), fr.sub ⟨rfl, rfl, rfl, trivial⟩, S, h⟩
                  · refine wp_exit ?_
                    refine then_e ?_
                    refine then_e ?_
                    refine blk_y ?_
                    refine then_n ?_
                    refine wp_seq ?_
                    refine wp_region_lit ?_
                    refine wl_run orc_ok 1 rfl fr fun a fr => ?_
                    have S : Sat w0 _ [mapA .u32 (Value.int .i64) g4 p33, stA 26 g7 [(.int .i64 x30), (.map (some g6))], mapA .u32 (Value.int .i64) g6 p31, stA 26 g5 [(.int .i64 x32), (.map (some g4))]] := S.frontAt 3 rfl
                    have S : Sat w0 _ [stA 26 g5 [(.int .i64 x32), (.map (some g4))], mapA .u32 (Value.int .i64) g4 p33, stA 26 g7 [(.int .i64 x30), (.map (some g6))], mapA .u32 (Value.int .i64) g6 p31] := S.frontAt 3 rfl
                    obtain ⟨r47, hr, h⟩ := bnd h
                    refine wl_call fr rfl rfl rfl rfl en10 (Left.walk g5 x32 g4 p33 (0 : Int) rfl S hr) ?_
                    rintro _ w ⟨rfl, hv, S⟩
                    refine ⟨_, rfl, hv, fun a fr => ?_⟩
                    refine wl_run orc_ok 5 rfl fr fun a fr => ?_
                    refine wpList_nil ?_
                    refine then_n ?_
                    refine wp_seq ?_
                    refine wp_region_lit ?_
                    refine wl_run orc_ok 3 rfl fr fun a fr => ?_
                    refine wpList_nil ?_
                    refine then_n ?_
                    refine wp_ret ?_
                    injection h with h
                    subst h
                    refine ret1 fr rfl rfl ?_
                    exact ⟨rfl, fr.vok (d := 4) rfl, S.mask [false, false, false, false]⟩
  exact (key w rfl (Sat.start w)).mono fun e w' ⟨h1, h2, h3⟩ => ⟨h1, h2, S.new h3.below⟩
end Go.Proofs.Ytlhdofkdjlpheaa.Pl
