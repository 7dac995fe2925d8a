/- Texts of this work, one behind the other. -/
import Derived.Test.YticnjkdaccacaaaGreatVChiefsOwn4
import Derived.Test.YticnjkdaccacaaaGreatProg
section
namespace Go.Proofs.YticnjkdaccacaaaGreat.QSortuint32uint32
open Go Go.RowKit Sx Base _root_.Go.Proofs.YticnjkdaccacaaaGreat.Own
def orc : Orc := ⟨[(3, .int .i64), (5, .int .u8), (9, .string), (31, .int .u32), (58, .int .u64), (72, .slice 31), (152, .int .u64), (204, .int .u64)],
  [(3, 1), (31, 1), (204, 1)]⟩
theorem orc_ok : orc.Ok Tryz.prog := ⟨⟨Tryz.underlying3, Tryz.underlying5, Tryz.underlying9, Tryz.underlying31, Tryz.underlying58, Tryz.underlying72, Tryz.underlying152, Tryz.underlying204, trivial⟩, ⟨by kernel_rfl, by kernel_rfl, by kernel_rfl, trivial⟩⟩
theorem en86 : Enters Tryz.prog 86 := fun _ _ => by kernel_rfl
theorem en87 : Enters Tryz.prog 87 := fun _ _ => by kernel_rfl
theorem en101 : Enters Tryz.prog 101 := fun _ _ => by kernel_rfl
theorem en102 : Enters Tryz.prog 102 := fun _ _ => by kernel_rfl
theorem en103 : Enters Tryz.prog 103 := fun _ _ => by kernel_rfl
theorem en104 : Enters Tryz.prog 104 := fun _ _ => by kernel_rfl
theorem en105 : Enters Tryz.prog 105 := fun _ _ => by kernel_rfl
theorem en106 : Enters Tryz.prog 106 := fun _ _ => by kernel_rfl
theorem en107 : Enters Tryz.prog 107 := fun _ _ => by kernel_rfl
theorem en108 : Enters Tryz.prog 108 := fun _ _ => by kernel_rfl
theorem en109 : Enters Tryz.prog 109 := fun _ _ => by kernel_rfl
theorem en111 : Enters Tryz.prog 111 := fun _ _ => by kernel_rfl
theorem en119 : Enters Tryz.prog 119 := fun _ _ => by kernel_rfl
theorem en120 : Enters Tryz.prog 120 := fun _ _ => by kernel_rfl
theorem en121 : Enters Tryz.prog 121 := fun _ _ => by kernel_rfl
theorem en122 : Enters Tryz.prog 122 := fun _ _ => by kernel_rfl
theorem en123 : Enters Tryz.prog 123 := fun _ _ => by kernel_rfl
theorem en124 : Enters Tryz.prog 124 := fun _ _ => by kernel_rfl
theorem en125 : Enters Tryz.prog 125 := fun _ _ => by kernel_rfl
theorem zero3 : ∀ W, (zeroValue 3).run Tryz.prog W = .ok (.int .i64 0) W := fun _ => by kernel_rfl
theorem zero204 : ∀ W, (zeroValue 204).run Tryz.prog W = .ok (.int .u64 0) W := fun _ => by kernel_rfl
set_option maxRecDepth 100000 in
set_option maxHeartbeats 4000000 in
theorem Len64.walk (a0 : Int) {w0 w : World} {R : List Asn} (v0 : (Lit.int .u64 a0).wf = true) (S : Sat w0 w R) {r : Int} (h : Len64.f a0 = some r) :
    Calls Tryz.prog 111 #[(.int .u64 a0)] w fun e w' => e = .returned (.int .i64 r) ∧ vok (.int .i64 r) = true ∧ Sat w0 w' R := by
  have key : ∀ w0 : World, w0 = w → Sat w0 w [] → Calls Tryz.prog 111 #[(.int .u64 a0)] w fun e w' => e = .returned (.int .i64 r) ∧ vok (.int .i64 r) = true ∧ Sat w0 w' [] := by
    clear S
    intro w0 hw S
    clear hw
    unfold Len64.f at h
    refine calls_start (N := 25) [(.int .u64 a0)] Tryz.func111 rfl rfl rfl (vok_c v0 rfl) fun a fr => ?_
    refine wp_seq ?_
    refine wp_region_lit ?_
    refine wl_run orc_ok 1 rfl fr fun a fr => ?_
    refine wpList_nil ?_
    refine then_n ?_
    refine cw_cut (fun a w => ∃ x1 : Int, ∃ x2 : Int, Fr 25 a [(0, (.int .u64 x1)), (2, (.int .i64 x2))] ∧ Sat w0 w [] ∧ (Len64.j1 x1 x2) = some r) ?_ ?_
    · refine wp_seq ?_
      refine wp_region_lit ?_
      refine wl_run orc_ok 2 rfl fr fun a fr => ?_
      refine wpList_nil ?_
      refine then_n ?_
      refine cw_if fr rfl h (fun h => ?_) (fun h => ?_)
      · refine wp_seq ?_
        refine wp_region_lit ?_
        refine wl_run orc_ok 3 rfl fr fun a fr => ?_
        refine wpList_nil ?_
        refine then_n ?_
        refine wp_region_lit ?_
        refine wl_run orc_ok 1 rfl fr fun a fr => ?_
        refine wpList_nil ?_
        exact ⟨(Int.fdiv a0 (2 ^ 32)), (32 : Int), fr.sub ⟨rfl, rfl, trivial⟩, S, h⟩
      · refine wp_skip ?_
        exact ⟨a0, (0 : Int), fr.sub ⟨rfl, rfl, trivial⟩, S, h⟩
    · rintro a w ⟨x1, x2, fr, S, h⟩
      rw [Len64.j1] at h
      refine cw_cut (fun a w => ∃ x3 : Int, ∃ x4 : Int, Fr 25 a [(0, (.int .u64 x3)), (2, (.int .i64 x4))] ∧ Sat w0 w [] ∧ (Len64.j2 x3 x4) = some r) ?_ ?_
      · refine wp_seq ?_
        refine wp_region_lit ?_
        refine wl_run orc_ok 2 rfl fr fun a fr => ?_
        refine wpList_nil ?_
        refine then_n ?_
        refine cw_if fr rfl h (fun h => ?_) (fun h => ?_)
        · refine wp_seq ?_
          refine wp_region_lit ?_
          refine wl_run orc_ok 3 rfl fr fun a fr => ?_
          refine wpList_nil ?_
          refine then_n ?_
          refine wp_region_lit ?_
          refine wl_run orc_ok 3 rfl fr fun a fr => ?_
          obtain ⟨y9, hx, h⟩ := lt_h h
          have fr := fr.spell (d := 2) rfl (congrArg (Value.int .i64) hx)
          refine wpList_nil ?_
          exact ⟨(Int.fdiv x1 (2 ^ 16)), y9, fr.sub ⟨rfl, rfl, trivial⟩, S, h⟩
        · refine wp_skip ?_
          exact ⟨x1, x2, fr.sub ⟨rfl, rfl, trivial⟩, S, h⟩
      · rintro a w ⟨x3, x4, fr, S, h⟩
        rw [Len64.j2] at h
        refine cw_cut (fun a w => ∃ x5 : Int, ∃ x6 : Int, Fr 25 a [(0, (.int .u64 x5)), (2, (.int .i64 x6))] ∧ Sat w0 w [] ∧ (Len64.j3 x5 x6) = some r) ?_ ?_
        · refine wp_seq ?_
          refine wp_region_lit ?_
          refine wl_run orc_ok 2 rfl fr fun a fr => ?_
          refine wpList_nil ?_
          refine then_n ?_
          refine cw_if fr rfl h (fun h => ?_) (fun h => ?_)
          · refine wp_seq ?_
            refine wp_region_lit ?_
            refine wl_run orc_ok 3 rfl fr fun a fr => ?_
            refine wpList_nil ?_
            refine then_n ?_
            refine wp_region_lit ?_
            refine wl_run orc_ok 3 rfl fr fun a fr => ?_
            obtain ⟨y8, hx, h⟩ := lt_h h
            have fr := fr.spell (d := 2) rfl (congrArg (Value.int .i64) hx)
            refine wpList_nil ?_
            exact ⟨(Int.fdiv x3 (2 ^ 8)), y8, fr.sub ⟨rfl, rfl, trivial⟩, S, h⟩
          · refine wp_skip ?_
            exact ⟨x3, x4, fr.sub ⟨rfl, rfl, trivial⟩, S, h⟩
        · rintro a w ⟨x5, x6, fr, S, h⟩
          rw [Len64.j3] at h
          refine wp_seq ?_
          refine wp_region_lit ?_
          refine wl_run orc_ok 3 rfl fr fun a fr => ?_
          obtain ⟨hc, h⟩ := ifs h
          refine wl_ixs orc_ok fr rfl rfl rfl rfl rfl rfl rfl hc fun a fr => ?_
          refine wl_run orc_ok 3 rfl fr fun a fr => ?_
          obtain ⟨y7, hx, h⟩ := lt_h h
          have fr := fr.spell (d := 2) rfl (congrArg (Value.int .i64) hx)
          refine wpList_nil ?_
          refine then_n ?_
          refine wp_ret ?_
          injection h with h
          subst h
          refine ret1 fr rfl rfl ?_
          exact ⟨rfl, fr.vok (d := 2) rfl, S.mask []⟩
  exact (key w rfl (Sat.start w)).mono fun e w' ⟨h1, h2, h3⟩ => ⟨h1, h2, S.new h3.below⟩
set_option maxRecDepth 100000 in
set_option maxHeartbeats 4000000 in
theorem Len.walk (a0 : Int) {w0 w : World} {R : List Asn} (v0 : (Lit.int .u64 a0).wf = true) (S : Sat w0 w R) {r : Int} (h : Len.f a0 = some r) :
    Calls Tryz.prog 87 #[(.int .u64 a0)] w fun e w' => e = .returned (.int .i64 r) ∧ vok (.int .i64 r) = true ∧ Sat w0 w' R := by
  have key : ∀ w0 : World, w0 = w → Sat w0 w [] → Calls Tryz.prog 87 #[(.int .u64 a0)] w fun e w' => e = .returned (.int .i64 r) ∧ vok (.int .i64 r) = true ∧ Sat w0 w' [] := by
    clear S
    intro w0 hw S
    clear hw
    unfold Len.f at h
    refine calls_start (N := 8) [(.int .u64 a0)] Tryz.func87 rfl rfl rfl (vok_c v0 rfl) fun a fr => ?_
    refine wp_seq ?_
    refine wp_region_lit ?_
    refine wl_run orc_ok 1 rfl fr fun a fr => ?_
    refine wpList_nil ?_
    refine then_n ?_
    refine wp_seq ?_
    refine cw_f fr rfl ?_
    refine wp_skip ?_
    refine then_n ?_
    refine wp_seq ?_
    refine wp_region_lit ?_
    refine wl_run orc_ok 1 rfl fr fun a fr => ?_
    obtain ⟨r1, hr, h⟩ := bnd h
    refine wl_call fr rfl rfl rfl rfl en111 (Len64.walk a0 (fr.int (d := 6) rfl) S hr) ?_
    rintro _ w ⟨rfl, hv, S⟩
    refine ⟨_, rfl, hv, fun a fr => ?_⟩
    refine wl_run orc_ok 1 rfl fr fun a fr => ?_
    refine wpList_nil ?_
    refine then_n ?_
    refine wp_ret ?_
    injection h with h
    subst h
    refine ret1 fr rfl rfl ?_
    exact ⟨rfl, fr.vok (d := 2) rfl, S.mask []⟩
  exact (key w rfl (Sat.start w)).mono fun e w' ⟨h1, h2, h3⟩ => ⟨h1, h2, S.new h3.below⟩
set_option maxRecDepth 100000 in
set_option maxHeartbeats 4000000 in
theorem isNaN_uint32.walk (a0 : Int) {w0 w : World} {R : List Asn} (v0 : (Lit.int .u32 a0).wf = true) (S : Sat w0 w R) {r : Bool} (h : isNaN_uint32.f a0 = some r) :
    Calls Tryz.prog 124 #[(.int .u32 a0)] w fun e w' => e = .returned (.bool r) ∧ vok (.bool r) = true ∧ Sat w0 w' R := by
  have key : ∀ w0 : World, w0 = w → Sat w0 w [] → Calls Tryz.prog 124 #[(.int .u32 a0)] w fun e w' => e = .returned (.bool r) ∧ vok (.bool r) = true ∧ Sat w0 w' [] := by
    clear S
    intro w0 hw S
    clear hw
    unfold isNaN_uint32.f at h
    refine calls_start (N := 6) [(.int .u32 a0)] Tryz.func124 rfl rfl rfl (vok_c v0 rfl) fun a fr => ?_
    refine wp_seq ?_
    refine wp_region_lit ?_
    refine wl_run orc_ok 1 rfl fr fun a fr => ?_
    refine wpList_nil ?_
    refine then_n ?_
    refine wp_seq ?_
    refine wp_region_lit ?_
    refine wl_run orc_ok 4 rfl fr fun a fr => ?_
    refine wpList_nil ?_
    refine then_n ?_
    refine wp_ret ?_
    injection h with h
    subst h
    refine ret1 fr rfl rfl ?_
    exact ⟨rfl, fr.vok (d := 2) rfl, S.mask []⟩
  exact (key w rfl (Sat.start w)).mono fun e w' ⟨h1, h2, h3⟩ => ⟨h1, h2, S.new h3.below⟩
set_option maxRecDepth 100000 in
set_option maxHeartbeats 4000000 in
theorem Less_uint32.walk (a0 : Int) (a1 : Int) {w0 w : World} {R : List Asn} (v0 : (Lit.int .u32 a0).wf = true) (v1 : (Lit.int .u32 a1).wf = true) (S : Sat w0 w R) {r : Bool} (h : Less_uint32.f a0 a1 = some r) :
    Calls Tryz.prog 107 #[(.int .u32 a0), (.int .u32 a1)] w fun e w' => e = .returned (.bool r) ∧ vok (.bool r) = true ∧ Sat w0 w' R := by
  have key : ∀ w0 : World, w0 = w → Sat w0 w [] → Calls Tryz.prog 107 #[(.int .u32 a0), (.int .u32 a1)] w fun e w' => e = .returned (.bool r) ∧ vok (.bool r) = true ∧ Sat w0 w' [] := by
    clear S
    intro w0 hw S
    clear hw
    unfold Less_uint32.f at h
    refine calls_start (N := 17) [(.int .u32 a0), (.int .u32 a1)] Tryz.func107 rfl rfl rfl (vok_c v0 (vok_c v1 rfl)) fun a fr => ?_
    refine wp_seq ?_
    refine wp_region_lit ?_
    refine wl_run orc_ok 1 rfl fr fun a fr => ?_
    refine wpList_nil ?_
    refine then_n ?_
    refine wp_seq ?_
    refine wp_region_lit ?_
    refine wl_run orc_ok 1 rfl fr fun a fr => ?_
    obtain ⟨r1, hr, h⟩ := bnd h
    refine wl_call fr rfl rfl rfl rfl en124 (isNaN_uint32.walk a0 (fr.int (d := 5) rfl) S hr) ?_
    rintro _ w ⟨rfl, hv, S⟩
    refine ⟨_, rfl, hv, fun a fr => ?_⟩
    refine wl_run orc_ok 1 rfl fr fun a fr => ?_
    refine wl_split 7 fr rfl h (fun fr h => ?_) (fun fr h => ?_)
    · refine wl_run orc_ok 1 rfl fr fun a fr => ?_
      obtain ⟨r2, hr, h⟩ := bnd h
      refine wl_call fr rfl rfl rfl rfl en124 (isNaN_uint32.walk a1 (fr.int (d := 8) rfl) S hr) ?_
      rintro _ w ⟨rfl, hv, S⟩
      refine ⟨_, rfl, hv, fun a fr => ?_⟩
      refine wl_run orc_ok 3 rfl fr fun a fr => ?_
      refine wl_split 12 fr rfl h (fun fr h => ?_) (fun fr h => ?_)
      · refine wl_run orc_ok 5 rfl fr fun a fr => ?_
        refine wpList_nil ?_
        refine then_n ?_
        refine wp_ret ?_
        injection h with h
        subst h
        refine ret1 fr rfl rfl ?_
        exact ⟨rfl, fr.vok (d := 4) rfl, S.mask []⟩
      · refine wl_run orc_ok 5 rfl fr fun a fr => ?_
        refine wpList_nil ?_
        refine then_n ?_
        refine wp_ret ?_
        injection h with h
        subst h
        refine ret1 fr rfl rfl ?_
        exact ⟨rfl, fr.vok (d := 4) rfl, S.mask []⟩
    · refine wl_run orc_ok 10 rfl fr fun a fr => ?_
      refine wpList_nil ?_
      refine then_n ?_
      refine wp_ret ?_
      injection h with h
      subst h
      refine ret1 fr rfl rfl ?_
      exact ⟨rfl, fr.vok (d := 4) rfl, S.mask []⟩
  exact (key w rfl (Sat.start w)).mono fun e w' ⟨h1, h2, h3⟩ => ⟨h1, h2, S.new h3.below⟩
set_option maxRecDepth 100000 in
set_option maxHeartbeats 4000000 in
theorem insertionSortOrdered_uint32.walk (k : Nat) (A0 : Option Addr) (c0 n0 : Nat) (l0 : List Int) (a1 : Int) (a2 : Int) {w0 w : World} {R : List Asn} (m0 : n0 ≤ c0 ∧ c0 ≤ maxLen) (v1 : (Lit.int .i64 a1).wf = true) (v2 : (Lit.int .i64 a2).wf = true) (S : Sat w0 w (rowA .u32 31 A0 c0 n0 l0 :: R)) {r : List Int} (h : insertionSortOrdered_uint32.f k n0 l0 a1 a2 = some r) :
    Calls Tryz.prog 101 #[(.slice A0 n0 c0), (.int .i64 a1), (.int .i64 a2)] w fun e w' => e = .returned (.tuple #[]) ∧ Sat w0 w' (rowA .u32 31 A0 c0 n0 r :: R) := by
  unfold insertionSortOrdered_uint32.f at h
  refine calls_start (N := 49) [(.slice A0 n0 c0), (.int .i64 a1), (.int .i64 a2)] Tryz.func101 rfl rfl rfl (vok_c (vok_sl m0) (vok_c v1 (vok_c v2 rfl))) fun a fr => ?_
  refine wp_seq ?_
  refine wp_region_lit ?_
  refine wl_run orc_ok 3 rfl fr fun a fr => ?_
  refine wpList_nil ?_
  refine then_n ?_
  refine wp_block ?_
  refine cw_loop (fun k1 a w => ∃ l1 : List Int, ∃ x2 : Int, Fr 49 a [(0, (.slice A0 n0 c0)), (1, (.int .i64 a1)), (2, (.int .i64 a2)), (6, (.int .i64 x2))] ∧ Sat w0 w (rowA .u32 31 A0 c0 n0 l1 :: R) ∧ (insertionSortOrdered_uint32.l1 k1 a2 a1 n0 l1 x2) = some r) k ⟨l0, (IntKind.wrap .i64 (a1 + (1 : Int))), fr.sub ⟨rfl, rfl, rfl, rfl, trivial⟩, S, h⟩ ?_ ?_
  · rintro a w ⟨l1, x2, -, -, h⟩
    simp only [insertionSortOrdered_uint32.l1] at h
    cases h
  · rintro k1 a w ⟨l1, x2, fr, S, h⟩
    rw [insertionSortOrdered_uint32.l1] at h
    refine wp_seq ?_
    refine wp_seq ?_
    refine wp_region_lit ?_
    refine wl_run orc_ok 3 rfl fr fun a fr => ?_
    refine wpList_nil ?_
    refine then_n ?_
    refine cw_if fr rfl h (fun h => ?_) (fun h => ?_)
    · refine wp_skip ?_
      refine then_n ?_
      refine cw_cut (fun a w => ∃ l5 : List Int, Fr 49 a [(0, (.slice A0 n0 c0)), (1, (.int .i64 a1)), (2, (.int .i64 a2)), (6, (.int .i64 x2))] ∧ Sat w0 w (rowA .u32 31 A0 c0 n0 l5 :: R) ∧ (insertionSortOrdered_uint32.j1 (insertionSortOrdered_uint32.l1 k1 a2 a1 n0) x2 l5) = some r) ?_ ?_
      · refine wp_block ?_
        refine wp_seq ?_
        refine wp_region_lit ?_
        refine wl_run orc_ok 2 rfl fr fun a fr => ?_
        refine wpList_nil ?_
        refine then_n ?_
        refine wp_block ?_
        refine cw_loop (fun k2 a w => ∃ l6 : List Int, ∃ x7 : Int, Fr 49 a [(0, (.slice A0 n0 c0)), (1, (.int .i64 a1)), (2, (.int .i64 a2)), (6, (.int .i64 x2)), (7, (.int .i64 x7))] ∧ Sat w0 w (rowA .u32 31 A0 c0 n0 l6 :: R) ∧ (insertionSortOrdered_uint32.l2 k2 (insertionSortOrdered_uint32.l1 k1 a2 a1 n0) a1 n0 x2 l6 x7) = some r) k1 ⟨l1, x2, fr.sub ⟨rfl, rfl, rfl, rfl, rfl, trivial⟩, S, h⟩ ?_ ?_
        · rintro a w ⟨l6, x7, -, -, h⟩
          simp only [insertionSortOrdered_uint32.l2] at h
          cases h
        · rintro k2 a w ⟨l6, x7, fr, S, h⟩
          rw [insertionSortOrdered_uint32.l2] at h
          refine wp_seq ?_
          refine wp_seq ?_
          refine wp_region_sl [.one (0, true, some 16), .one (1, true, some 17), .one (2, true, some 18), .one (3, true, some 19), .one (4, true, some 20), .one (5, true, some 21), .one (6, true, some 22), .one (7, true, some 23), .one (8, true, some 24), .one (9, true, some 25), .one (10, true, some 26), .one (11, true, some 27), .one (12, true, some 28), .one (13, false, some 29), .one (14, true, some 30)]
            [.one ⟨true, some 16, (Go.Op.move (Go.Operand.tmp 7)), 3, none⟩,
    .one ⟨true, some 17, (Go.Op.move (Go.Operand.tmp 1)), 3, none⟩,
    .one ⟨true, some 18, (Go.Op.binOp Go.BinOp.gtr 3 (Go.Operand.tmp 16) (Go.Operand.tmp 17) 3), 4, none⟩,
    .one ⟨true, some 19, (Go.Op.move (Go.Operand.tmp 18)), 4, none⟩,
    .one ⟨true, some 20, (Go.Op.move (Go.Operand.tmp 0)), 72, some (19, true)⟩,
    .one ⟨true, some 21, (Go.Op.move (Go.Operand.tmp 7)), 3, some (19, true)⟩,
    .one ⟨true, some 22, (Go.Op.indexAddr 72 (Go.Operand.tmp 20) (Go.Operand.tmp 21)), 0, some (19, true)⟩,
    .one ⟨true, some 23, (Go.Op.load 31 (Go.Operand.tmp 22)), 31, some (19, true)⟩,
    .one ⟨true, some 24, (Go.Op.move (Go.Operand.tmp 0)), 72, some (19, true)⟩,
    .one ⟨true, some 25, (Go.Op.move (Go.Operand.tmp 7)), 3, some (19, true)⟩,
    .one ⟨true, some 26, (Go.Op.binOp Go.BinOp.sub 3 (Go.Operand.tmp 25) (Go.Operand.const (Go.Value.int Go.IntKind.i64 1)) 3), 3, some (19, true)⟩,
    .one ⟨true, some 27, (Go.Op.indexAddr 72 (Go.Operand.tmp 24) (Go.Operand.tmp 26)), 0, some (19, true)⟩,
    .one ⟨true, some 28, (Go.Op.load 31 (Go.Operand.tmp 27)), 31, some (19, true)⟩,
    .one ⟨false, some 29, (Go.Op.call { callee := (Go.Callee.value (Go.Operand.func 107)), args := #[(Go.Operand.tmp 23), (Go.Operand.tmp 28)], argTypes := #[31, 31] }), 4, some (19, true)⟩,
    .one ⟨true, some 30, (Go.Op.pick (Go.Operand.tmp 19) (Go.Operand.tmp 29) (Go.Operand.const (Go.Value.bool false))), 4, none⟩]
            (fun w => Sat w0 w (rowA .u32 31 A0 c0 n0 l6 :: R)) rfl (by kernel_rfl) (by kernel_rfl) (S.drew.mask [true]) ?_
          have S := S.drew
          refine sl_run orc_ok 4 rfl fr fun a fr => ?_
          refine sl_split 19 fr rfl h (fun fr h => ?_) (fun fr h => ?_)
          · refine sl_run orc_ok 2 rfl fr fun a fr => ?_
            obtain ⟨hc, h⟩ := ifs h
            refine sl_ld orc_ok (fun _ S => Sat.rowAt S 0 rfl) fr rfl rfl rfl rfl rfl rfl rfl rfl rfl rfl rfl rfl rfl rfl rfl rfl (Sat.rowLen S 0 rfl) rfl (Sat.rowHb S 0 rfl hc) (Sat.mask S [true]) fun a fr => ?_
            refine sl_run orc_ok 3 rfl fr fun a fr => ?_
            obtain ⟨hc, h⟩ := ifs h
            refine sl_ld orc_ok (fun _ S => Sat.rowAt S 0 rfl) fr rfl rfl rfl rfl rfl rfl rfl rfl rfl rfl rfl rfl rfl rfl rfl rfl (Sat.rowLen S 0 rfl) rfl (Sat.rowHb S 0 rfl hc) (Sat.mask S [true]) fun a fr => ?_
            obtain ⟨r10, hr, h⟩ := bnd h
            refine sl_call fr rfl rfl rfl rfl rfl en107 (Less_uint32.walk (List.getD l6 (Int.toNat x7) 0) (List.getD l6 (Int.toNat (IntKind.wrap .i64 (x7 - (1 : Int)))) 0) (fr.int (d := 23) rfl) (fr.int (d := 28) rfl) S hr) ?_
            rintro _ w ⟨rfl, hv, S⟩
            refine ⟨_, rfl, hv, (Sat.mask S [true]), fun a fr => ?_⟩
            refine sl_run orc_ok 1 rfl fr fun a fr => ?_
            refine sl_end ?_
            refine then_n ?_
            refine cw_if fr rfl h (fun h => ?_) (fun h => ?_)
            · refine wp_skip ?_
              refine then_n ?_
              refine wp_seq ?_
              refine wp_block ?_
              refine wp_region_ph [2, 3, 4] [14, 15, 16, 17] [.one (2, true, some 35), .one (3, true, some 36), .one (4, true, some 37)] [.one ⟨true, some 35, (Go.Op.move (Go.Operand.tmp 0)), 72, none⟩,
    .one ⟨true, some 36, (Go.Op.move (Go.Operand.tmp 7)), 3, none⟩,
    .one ⟨true, some 37, (Go.Op.binOp Go.BinOp.sub 3 (Go.Operand.tmp 36) (Go.Operand.const (Go.Value.int Go.IntKind.i64 1)) 3), 3, none⟩] [.one (0, true, some 33), .one (1, true, some 34), .one (5, true, some 38), .one (6, true, some 39), .one (7, true, some 40), .one (8, true, some 41), .one (9, true, some 42), .one (10, true, some 43), .one (11, true, some 44), .one (12, true, some 45), .one (13, true, some 46)]
                [.one ⟨true, some 33, (Go.Op.move (Go.Operand.tmp 0)), 72, none⟩,
    .one ⟨true, some 34, (Go.Op.move (Go.Operand.tmp 7)), 3, none⟩,
    .one ⟨true, some 38, (Go.Op.move (Go.Operand.tmp 0)), 72, none⟩,
    .one ⟨true, some 39, (Go.Op.move (Go.Operand.tmp 7)), 3, none⟩,
    .one ⟨true, some 40, (Go.Op.binOp Go.BinOp.sub 3 (Go.Operand.tmp 39) (Go.Operand.const (Go.Value.int Go.IntKind.i64 1)) 3), 3, none⟩,
    .one ⟨true, some 41, (Go.Op.indexAddr 72 (Go.Operand.tmp 38) (Go.Operand.tmp 40)), 0, none⟩,
    .one ⟨true, some 42, (Go.Op.load 31 (Go.Operand.tmp 41)), 31, none⟩,
    .one ⟨true, some 43, (Go.Op.move (Go.Operand.tmp 0)), 72, none⟩,
    .one ⟨true, some 44, (Go.Op.move (Go.Operand.tmp 7)), 3, none⟩,
    .one ⟨true, some 45, (Go.Op.indexAddr 72 (Go.Operand.tmp 43) (Go.Operand.tmp 44)), 0, none⟩,
    .one ⟨true, some 46, (Go.Op.load 31 (Go.Operand.tmp 45)), 31, none⟩]
                [.one (14, true, some 47), .one (15, false, none), .one (16, true, some 48), .one (17, false, none)]
                [.one ⟨true, some 47, (Go.Op.indexAddr 72 (Go.Operand.tmp 33) (Go.Operand.tmp 34)), 0, none⟩,
    .one ⟨false, none, (Go.Op.store 31 (Go.Operand.tmp 47) (Go.Operand.tmp 42)), 0, none⟩,
    .one ⟨true, some 48, (Go.Op.indexAddr 72 (Go.Operand.tmp 35) (Go.Operand.tmp 37)), 0, none⟩,
    .one ⟨false, none, (Go.Op.store 31 (Go.Operand.tmp 48) (Go.Operand.tmp 46)), 0, none⟩]
                (fun w => Sat w0 w (rowA .u32 31 A0 c0 n0 l6 :: R)) (fun w => Sat w0 w (R)) rfl (by kernel_rfl) (by kernel_rfl) (by kernel_rfl) (by kernel_rfl) (S.drew.mask [true]) (fun _ S => S.mask [false]) ?_
              have S := S.drew
              refine sl_run orc_ok 3 rfl fr fun a fr => ?_
              refine sl_next ?_
              refine sl_run orc_ok 5 rfl fr fun a fr => ?_
              obtain ⟨hc, h⟩ := ifs h
              refine sl_ld orc_ok (fun _ S => Sat.rowAt S 0 rfl) fr rfl rfl rfl rfl rfl rfl rfl rfl rfl rfl rfl rfl rfl rfl rfl rfl (Sat.rowLen S 0 rfl) rfl (Sat.rowHb S 0 rfl hc) (Sat.mask S [true]) fun a fr => ?_
              refine sl_run orc_ok 2 rfl fr fun a fr => ?_
              obtain ⟨hc, h⟩ := ifs h
              refine sl_ld orc_ok (fun _ S => Sat.rowAt S 0 rfl) fr rfl rfl rfl rfl rfl rfl rfl rfl rfl rfl rfl rfl rfl rfl rfl rfl (Sat.rowLen S 0 rfl) rfl (Sat.rowHb S 0 rfl hc) (Sat.mask S [true]) fun a fr => ?_
              refine sl_next ?_
              obtain ⟨hc, h⟩ := ifs h
              have hp47 := hc
              refine sl_pe orc_ok (Sat.rowAt S 0 rfl) fr rfl rfl rfl rfl rfl rfl rfl rfl rfl (Sat.rowLen S 0 rfl) (Sat.rowHb S 0 rfl hc) fun a fr => ?_
              refine sl_str orc_ok fr rfl rfl rfl rfl rfl rfl rfl S hp47 ?_
              intro w S
              refine ⟨(Sat.mask S [false]), ?_⟩
              obtain ⟨hc, h⟩ := ifs h
              have hp48 := hc
              refine sl_pe orc_ok (Sat.rowAt S 0 rfl) fr rfl rfl rfl rfl rfl rfl rfl rfl rfl (Sat.rowLen S 0 rfl) (Sat.rowHb S 0 rfl hc) fun a fr => ?_
              refine sl_str orc_ok fr rfl rfl rfl rfl rfl rfl rfl S hp48 ?_
              intro w S
              refine ⟨(Sat.mask S [false]), ?_⟩
              refine sl_end ?_
              refine blk_n ?_
              refine then_n ?_
              refine wp_region_lit ?_
              refine wl_run orc_ok 3 rfl fr fun a fr => ?_
              refine wpList_nil ?_
              exact ⟨(List.set (List.set l6 (Int.toNat x7) (List.getD l6 (Int.toNat (IntKind.wrap .i64 (x7 - (1 : Int)))) 0)) (Int.toNat (IntKind.wrap .i64 (x7 - (1 : Int)))) (List.getD l6 (Int.toNat x7) 0)), (IntKind.wrap .i64 (x7 - (1 : Int))), fr.sub ⟨rfl, rfl, rfl, rfl, rfl, trivial⟩, S, h⟩
            · refine wp_exit ?_
              refine then_e ?_
              refine then_e ?_
              refine blk_y ?_
              refine blk_n ?_
              exact ⟨l6, fr.sub ⟨rfl, rfl, rfl, rfl, trivial⟩, S, h⟩
          · refine sl_run orc_ok 9 rfl fr fun a fr => ?_
            refine sl_no fr rfl (Sat.mask S [true]) rfl rfl fun a fr => ?_
            refine sl_run orc_ok 1 rfl fr fun a fr => ?_
            refine sl_end ?_
            refine then_n ?_
            refine cw_f fr rfl ?_
            refine wp_exit ?_
            refine then_e ?_
            refine then_e ?_
            refine blk_y ?_
            refine blk_n ?_
            exact ⟨l6, fr.sub ⟨rfl, rfl, rfl, rfl, trivial⟩, S, h⟩
      · rintro a w ⟨l5, fr, S, h⟩
        rw [insertionSortOrdered_uint32.j1] at h
        refine wp_region_lit ?_
        refine wl_run orc_ok 3 rfl fr fun a fr => ?_
        refine wpList_nil ?_
        exact ⟨l5, (IntKind.wrap .i64 (x2 + (1 : Int))), fr.sub ⟨rfl, rfl, rfl, rfl, trivial⟩, S, h⟩
    · refine wp_exit ?_
      refine then_e ?_
      refine then_e ?_
      refine blk_y ?_
      refine end_ret ?_
      injection h with h
      subst h
      refine ret0 fr rfl ?_
      exact ⟨rfl, S.mask [true]⟩
set_option maxRecDepth 100000 in
set_option maxHeartbeats 4000000 in
theorem siftDownOrdered_uint32.walk (k : Nat) (A0 : Option Addr) (c0 n0 : Nat) (l0 : List Int) (a1 : Int) (a2 : Int) (a3 : Int) {w0 w : World} {R : List Asn} (m0 : n0 ≤ c0 ∧ c0 ≤ maxLen) (v1 : (Lit.int .i64 a1).wf = true) (v2 : (Lit.int .i64 a2).wf = true) (v3 : (Lit.int .i64 a3).wf = true) (S : Sat w0 w (rowA .u32 31 A0 c0 n0 l0 :: R)) {r : List Int} (h : siftDownOrdered_uint32.f k n0 l0 a1 a2 a3 = some r) :
    Calls Tryz.prog 119 #[(.slice A0 n0 c0), (.int .i64 a1), (.int .i64 a2), (.int .i64 a3)] w fun e w' => e = .returned (.tuple #[]) ∧ Sat w0 w' (rowA .u32 31 A0 c0 n0 r :: R) := by
  unfold siftDownOrdered_uint32.f at h
  refine calls_start (N := 76) [(.slice A0 n0 c0), (.int .i64 a1), (.int .i64 a2), (.int .i64 a3)] Tryz.func119 rfl rfl rfl (vok_c (vok_sl m0) (vok_c v1 (vok_c v2 (vok_c v3 rfl)))) fun a fr => ?_
  refine wp_seq ?_
  refine wp_region_lit ?_
  refine wl_run orc_ok 2 rfl fr fun a fr => ?_
  refine wpList_nil ?_
  refine then_n ?_
  refine wp_block ?_
  refine cw_loop (fun k1 a w => ∃ l1 : List Int, ∃ x2 : Int, Fr 76 a [(0, (.slice A0 n0 c0)), (2, (.int .i64 a2)), (3, (.int .i64 a3)), (8, (.int .i64 x2))] ∧ Sat w0 w (rowA .u32 31 A0 c0 n0 l1 :: R) ∧ (siftDownOrdered_uint32.l1 k1 a2 a3 n0 l1 x2) = some r) k ⟨l0, a1, fr.sub ⟨rfl, rfl, rfl, rfl, trivial⟩, S, h⟩ ?_ ?_
  · rintro a w ⟨l1, x2, -, -, h⟩
    simp only [siftDownOrdered_uint32.l1] at h
    cases h
  · rintro k1 a w ⟨l1, x2, fr, S, h⟩
    rw [siftDownOrdered_uint32.l1] at h
    refine wp_block ?_
    refine wp_seq ?_
    refine wp_region_lit ?_
    refine wl_run orc_ok 4 rfl fr fun a fr => ?_
    obtain ⟨y5, hx, h⟩ := lt_h h
    have fr := fr.spell (d := 9) rfl (congrArg (Value.int .i64) hx)
    refine wpList_nil ?_
    refine then_n ?_
    refine wp_seq ?_
    refine wp_seq ?_
    refine wp_region_lit ?_
    refine wl_run orc_ok 3 rfl fr fun a fr => ?_
    refine wpList_nil ?_
    refine then_n ?_
    refine cw_if fr rfl h (fun h => ?_) (fun h => ?_)
    · refine wp_exit ?_
      refine then_e ?_
      refine blk_e rfl ?_
      refine then_e ?_
      refine blk_y ?_
      refine end_ret ?_
      injection h with h
      subst h
      refine ret0 fr rfl ?_
      exact ⟨rfl, S.mask [true]⟩
    · refine wp_skip ?_
      refine then_n ?_
      refine cw_cut (fun a w => ∃ x6 : Int, Fr 76 a [(0, (.slice A0 n0 c0)), (2, (.int .i64 a2)), (3, (.int .i64 a3)), (8, (.int .i64 x2)), (9, (.int .i64 x6))] ∧ Sat w0 w (rowA .u32 31 A0 c0 n0 l1 :: R) ∧ (siftDownOrdered_uint32.j1 (siftDownOrdered_uint32.l1 k1 a2 a3 n0) a3 x2 n0 l1 x6) = some r) ?_ ?_
      · refine wp_seq ?_
        refine wp_region_sl [.one (0, true, some 17), .one (1, true, some 18), .one (2, true, some 19), .one (3, true, some 20), .one (4, true, some 21), .one (5, true, some 22), .one (6, true, some 23), .one (7, true, some 24), .one (8, true, some 25), .one (9, true, some 26), .one (10, true, some 27), .one (11, true, some 28), .one (12, true, some 29), .one (13, true, some 30), .one (14, true, some 31), .one (15, true, some 32), .one (16, true, some 33), .one (17, true, some 34), .one (18, false, some 35), .one (19, true, some 36)]
          [.one ⟨true, some 17, (Go.Op.move (Go.Operand.tmp 9)), 3, none⟩,
    .one ⟨true, some 18, (Go.Op.binOp Go.BinOp.add 3 (Go.Operand.tmp 17) (Go.Operand.const (Go.Value.int Go.IntKind.i64 1)) 3), 3, none⟩,
    .one ⟨true, some 19, (Go.Op.move (Go.Operand.tmp 2)), 3, none⟩,
    .one ⟨true, some 20, (Go.Op.binOp Go.BinOp.lss 3 (Go.Operand.tmp 18) (Go.Operand.tmp 19) 3), 4, none⟩,
    .one ⟨true, some 21, (Go.Op.move (Go.Operand.tmp 20)), 4, none⟩,
    .one ⟨true, some 22, (Go.Op.move (Go.Operand.tmp 0)), 72, some (21, true)⟩,
    .one ⟨true, some 23, (Go.Op.move (Go.Operand.tmp 3)), 3, some (21, true)⟩,
    .one ⟨true, some 24, (Go.Op.move (Go.Operand.tmp 9)), 3, some (21, true)⟩,
    .one ⟨true, some 25, (Go.Op.binOp Go.BinOp.add 3 (Go.Operand.tmp 23) (Go.Operand.tmp 24) 3), 3, some (21, true)⟩,
    .one ⟨true, some 26, (Go.Op.indexAddr 72 (Go.Operand.tmp 22) (Go.Operand.tmp 25)), 0, some (21, true)⟩,
    .one ⟨true, some 27, (Go.Op.load 31 (Go.Operand.tmp 26)), 31, some (21, true)⟩,
    .one ⟨true, some 28, (Go.Op.move (Go.Operand.tmp 0)), 72, some (21, true)⟩,
    .one ⟨true, some 29, (Go.Op.move (Go.Operand.tmp 3)), 3, some (21, true)⟩,
    .one ⟨true, some 30, (Go.Op.move (Go.Operand.tmp 9)), 3, some (21, true)⟩,
    .one ⟨true, some 31, (Go.Op.binOp Go.BinOp.add 3 (Go.Operand.tmp 29) (Go.Operand.tmp 30) 3), 3, some (21, true)⟩,
    .one ⟨true, some 32, (Go.Op.binOp Go.BinOp.add 3 (Go.Operand.tmp 31) (Go.Operand.const (Go.Value.int Go.IntKind.i64 1)) 3), 3, some (21, true)⟩,
    .one ⟨true, some 33, (Go.Op.indexAddr 72 (Go.Operand.tmp 28) (Go.Operand.tmp 32)), 0, some (21, true)⟩,
    .one ⟨true, some 34, (Go.Op.load 31 (Go.Operand.tmp 33)), 31, some (21, true)⟩,
    .one ⟨false, some 35, (Go.Op.call { callee := (Go.Callee.value (Go.Operand.func 107)), args := #[(Go.Operand.tmp 27), (Go.Operand.tmp 34)], argTypes := #[31, 31] }), 4, some (21, true)⟩,
    .one ⟨true, some 36, (Go.Op.pick (Go.Operand.tmp 21) (Go.Operand.tmp 35) (Go.Operand.const (Go.Value.bool false))), 4, none⟩]
          (fun w => Sat w0 w (rowA .u32 31 A0 c0 n0 l1 :: R)) rfl (by kernel_rfl) (by kernel_rfl) (S.drew.mask [true]) ?_
        have S := S.drew
        refine sl_run orc_ok 5 rfl fr fun a fr => ?_
        refine sl_split 21 fr rfl h (fun fr h => ?_) (fun fr h => ?_)
        · refine sl_run orc_ok 4 rfl fr fun a fr => ?_
          obtain ⟨hc, h⟩ := ifs h
          refine sl_ld orc_ok (fun _ S => Sat.rowAt S 0 rfl) fr rfl rfl rfl rfl rfl rfl rfl rfl rfl rfl rfl rfl rfl rfl rfl rfl (Sat.rowLen S 0 rfl) rfl (Sat.rowHb S 0 rfl hc) (Sat.mask S [true]) fun a fr => ?_
          refine sl_run orc_ok 5 rfl fr fun a fr => ?_
          obtain ⟨hc, h⟩ := ifs h
          refine sl_ld orc_ok (fun _ S => Sat.rowAt S 0 rfl) fr rfl rfl rfl rfl rfl rfl rfl rfl rfl rfl rfl rfl rfl rfl rfl rfl (Sat.rowLen S 0 rfl) rfl (Sat.rowHb S 0 rfl hc) (Sat.mask S [true]) fun a fr => ?_
          obtain ⟨r8, hr, h⟩ := bnd h
          refine sl_call fr rfl rfl rfl rfl rfl en107 (Less_uint32.walk (List.getD l1 (Int.toNat (IntKind.wrap .i64 (a3 + y5))) 0) (List.getD l1 (Int.toNat (IntKind.wrap .i64 ((IntKind.wrap .i64 (a3 + y5)) + (1 : Int)))) 0) (fr.int (d := 27) rfl) (fr.int (d := 34) rfl) S hr) ?_
          rintro _ w ⟨rfl, hv, S⟩
          refine ⟨_, rfl, hv, (Sat.mask S [true]), fun a fr => ?_⟩
          refine sl_run orc_ok 1 rfl fr fun a fr => ?_
          refine sl_end ?_
          refine then_n ?_
          refine cw_if fr rfl h (fun h => ?_) (fun h => ?_)
          · refine wp_region_lit ?_
            refine wl_run orc_ok 3 rfl fr fun a fr => ?_
            refine wpList_nil ?_
            exact ⟨(IntKind.wrap .i64 (y5 + (1 : Int))), fr.sub ⟨rfl, rfl, rfl, rfl, rfl, trivial⟩, S, h⟩
          · refine wp_skip ?_
            exact ⟨y5, fr.sub ⟨rfl, rfl, rfl, rfl, rfl, trivial⟩, S, h⟩
        · refine sl_run orc_ok 13 rfl fr fun a fr => ?_
          refine sl_no fr rfl (Sat.mask S [true]) rfl rfl fun a fr => ?_
          refine sl_run orc_ok 1 rfl fr fun a fr => ?_
          refine sl_end ?_
          refine then_n ?_
          refine cw_f fr rfl ?_
          refine wp_skip ?_
          exact ⟨y5, fr.sub ⟨rfl, rfl, rfl, rfl, rfl, trivial⟩, S, h⟩
      · rintro a w ⟨x6, fr, S, h⟩
        rw [siftDownOrdered_uint32.j1] at h
        refine wp_seq ?_
        refine wp_seq ?_
        refine wp_region_sl [.one (0, true, some 39), .one (1, true, some 40), .one (2, true, some 41), .one (3, true, some 42), .one (4, true, some 43), .one (5, true, some 44), .one (6, true, some 45), .one (7, true, some 46), .one (8, true, some 47), .one (9, true, some 48), .one (10, true, some 49), .one (11, true, some 50), .one (12, false, some 51), .one (13, true, some 52)]
          [.one ⟨true, some 39, (Go.Op.move (Go.Operand.tmp 0)), 72, none⟩,
    .one ⟨true, some 40, (Go.Op.move (Go.Operand.tmp 3)), 3, none⟩,
    .one ⟨true, some 41, (Go.Op.move (Go.Operand.tmp 8)), 3, none⟩,
    .one ⟨true, some 42, (Go.Op.binOp Go.BinOp.add 3 (Go.Operand.tmp 40) (Go.Operand.tmp 41) 3), 3, none⟩,
    .one ⟨true, some 43, (Go.Op.indexAddr 72 (Go.Operand.tmp 39) (Go.Operand.tmp 42)), 0, none⟩,
    .one ⟨true, some 44, (Go.Op.load 31 (Go.Operand.tmp 43)), 31, none⟩,
    .one ⟨true, some 45, (Go.Op.move (Go.Operand.tmp 0)), 72, none⟩,
    .one ⟨true, some 46, (Go.Op.move (Go.Operand.tmp 3)), 3, none⟩,
    .one ⟨true, some 47, (Go.Op.move (Go.Operand.tmp 9)), 3, none⟩,
    .one ⟨true, some 48, (Go.Op.binOp Go.BinOp.add 3 (Go.Operand.tmp 46) (Go.Operand.tmp 47) 3), 3, none⟩,
    .one ⟨true, some 49, (Go.Op.indexAddr 72 (Go.Operand.tmp 45) (Go.Operand.tmp 48)), 0, none⟩,
    .one ⟨true, some 50, (Go.Op.load 31 (Go.Operand.tmp 49)), 31, none⟩,
    .one ⟨false, some 51, (Go.Op.call { callee := (Go.Callee.value (Go.Operand.func 107)), args := #[(Go.Operand.tmp 44), (Go.Operand.tmp 50)], argTypes := #[31, 31] }), 4, none⟩,
    .one ⟨true, some 52, (Go.Op.unOp Go.UnOp.not 4 (Go.Operand.tmp 51)), 4, none⟩]
          (fun w => Sat w0 w (rowA .u32 31 A0 c0 n0 l1 :: R)) rfl (by kernel_rfl) (by kernel_rfl) (S.drew.mask [true]) ?_
        have S := S.drew
        refine sl_run orc_ok 4 rfl fr fun a fr => ?_
        obtain ⟨hc, h⟩ := ifs h
        refine sl_ld orc_ok (fun _ S => Sat.rowAt S 0 rfl) fr rfl rfl rfl rfl rfl rfl rfl rfl rfl rfl rfl rfl rfl rfl rfl rfl (Sat.rowLen S 0 rfl) rfl (Sat.rowHb S 0 rfl hc) (Sat.mask S [true]) fun a fr => ?_
        refine sl_run orc_ok 4 rfl fr fun a fr => ?_
        obtain ⟨hc, h⟩ := ifs h
        refine sl_ld orc_ok (fun _ S => Sat.rowAt S 0 rfl) fr rfl rfl rfl rfl rfl rfl rfl rfl rfl rfl rfl rfl rfl rfl rfl rfl (Sat.rowLen S 0 rfl) rfl (Sat.rowHb S 0 rfl hc) (Sat.mask S [true]) fun a fr => ?_
        obtain ⟨r7, hr, h⟩ := bnd h
        refine sl_call fr rfl rfl rfl rfl rfl en107 (Less_uint32.walk (List.getD l1 (Int.toNat (IntKind.wrap .i64 (a3 + x2))) 0) (List.getD l1 (Int.toNat (IntKind.wrap .i64 (a3 + x6))) 0) (fr.int (d := 44) rfl) (fr.int (d := 50) rfl) S hr) ?_
        rintro _ w ⟨rfl, hv, S⟩
        refine ⟨_, rfl, hv, (Sat.mask S [true]), fun a fr => ?_⟩
        refine sl_run orc_ok 1 rfl fr fun a fr => ?_
        refine sl_end ?_
        refine then_n ?_
        refine cw_if fr rfl h (fun h => ?_) (fun h => ?_)
        · refine wp_ret ?_
          refine then_r ?_
          refine blk_r ?_
          refine then_r ?_
          refine blk_r ?_
          injection h with h
          subst h
          refine ret0 fr rfl ?_
          exact ⟨rfl, S.mask [true]⟩
        · refine wp_skip ?_
          refine then_n ?_
          refine wp_seq ?_
          refine wp_region_ph [4, 5, 6, 7] [20, 21, 22, 23] [.one (4, true, some 57), .one (5, true, some 58), .one (6, true, some 59), .one (7, true, some 60)] [.one ⟨true, some 57, (Go.Op.move (Go.Operand.tmp 0)), 72, none⟩,
    .one ⟨true, some 58, (Go.Op.move (Go.Operand.tmp 3)), 3, none⟩,
    .one ⟨true, some 59, (Go.Op.move (Go.Operand.tmp 9)), 3, none⟩,
    .one ⟨true, some 60, (Go.Op.binOp Go.BinOp.add 3 (Go.Operand.tmp 58) (Go.Operand.tmp 59) 3), 3, none⟩] [.one (0, true, some 53), .one (1, true, some 54), .one (2, true, some 55), .one (3, true, some 56), .one (8, true, some 61), .one (9, true, some 62), .one (10, true, some 63), .one (11, true, some 64), .one (12, true, some 65), .one (13, true, some 66), .one (14, true, some 67), .one (15, true, some 68), .one (16, true, some 69), .one (17, true, some 70), .one (18, true, some 71), .one (19, true, some 72)]
            [.one ⟨true, some 53, (Go.Op.move (Go.Operand.tmp 0)), 72, none⟩,
    .one ⟨true, some 54, (Go.Op.move (Go.Operand.tmp 3)), 3, none⟩,
    .one ⟨true, some 55, (Go.Op.move (Go.Operand.tmp 8)), 3, none⟩,
    .one ⟨true, some 56, (Go.Op.binOp Go.BinOp.add 3 (Go.Operand.tmp 54) (Go.Operand.tmp 55) 3), 3, none⟩,
    .one ⟨true, some 61, (Go.Op.move (Go.Operand.tmp 0)), 72, none⟩,
    .one ⟨true, some 62, (Go.Op.move (Go.Operand.tmp 3)), 3, none⟩,
    .one ⟨true, some 63, (Go.Op.move (Go.Operand.tmp 9)), 3, none⟩,
    .one ⟨true, some 64, (Go.Op.binOp Go.BinOp.add 3 (Go.Operand.tmp 62) (Go.Operand.tmp 63) 3), 3, none⟩,
    .one ⟨true, some 65, (Go.Op.indexAddr 72 (Go.Operand.tmp 61) (Go.Operand.tmp 64)), 0, none⟩,
    .one ⟨true, some 66, (Go.Op.load 31 (Go.Operand.tmp 65)), 31, none⟩,
    .one ⟨true, some 67, (Go.Op.move (Go.Operand.tmp 0)), 72, none⟩,
    .one ⟨true, some 68, (Go.Op.move (Go.Operand.tmp 3)), 3, none⟩,
    .one ⟨true, some 69, (Go.Op.move (Go.Operand.tmp 8)), 3, none⟩,
    .one ⟨true, some 70, (Go.Op.binOp Go.BinOp.add 3 (Go.Operand.tmp 68) (Go.Operand.tmp 69) 3), 3, none⟩,
    .one ⟨true, some 71, (Go.Op.indexAddr 72 (Go.Operand.tmp 67) (Go.Operand.tmp 70)), 0, none⟩,
    .one ⟨true, some 72, (Go.Op.load 31 (Go.Operand.tmp 71)), 31, none⟩]
            [.one (20, true, some 73), .one (21, false, none), .one (22, true, some 74), .one (23, false, none)]
            [.one ⟨true, some 73, (Go.Op.indexAddr 72 (Go.Operand.tmp 53) (Go.Operand.tmp 56)), 0, none⟩,
    .one ⟨false, none, (Go.Op.store 31 (Go.Operand.tmp 73) (Go.Operand.tmp 66)), 0, none⟩,
    .one ⟨true, some 74, (Go.Op.indexAddr 72 (Go.Operand.tmp 57) (Go.Operand.tmp 60)), 0, none⟩,
    .one ⟨false, none, (Go.Op.store 31 (Go.Operand.tmp 74) (Go.Operand.tmp 72)), 0, none⟩]
            (fun w => Sat w0 w (rowA .u32 31 A0 c0 n0 l1 :: R)) (fun w => Sat w0 w (R)) rfl (by kernel_rfl) (by kernel_rfl) (by kernel_rfl) (by kernel_rfl) (S.drew.mask [true]) (fun _ S => S.mask [false]) ?_
          have S := S.drew
          refine sl_run orc_ok 4 rfl fr fun a fr => ?_
          refine sl_next ?_
          refine sl_run orc_ok 8 rfl fr fun a fr => ?_
          obtain ⟨hc, h⟩ := ifs h
          refine sl_ld orc_ok (fun _ S => Sat.rowAt S 0 rfl) fr rfl rfl rfl rfl rfl rfl rfl rfl rfl rfl rfl rfl rfl rfl rfl rfl (Sat.rowLen S 0 rfl) rfl (Sat.rowHb S 0 rfl hc) (Sat.mask S [true]) fun a fr => ?_
          refine sl_run orc_ok 4 rfl fr fun a fr => ?_
          obtain ⟨hc, h⟩ := ifs h
          refine sl_ld orc_ok (fun _ S => Sat.rowAt S 0 rfl) fr rfl rfl rfl rfl rfl rfl rfl rfl rfl rfl rfl rfl rfl rfl rfl rfl (Sat.rowLen S 0 rfl) rfl (Sat.rowHb S 0 rfl hc) (Sat.mask S [true]) fun a fr => ?_
          refine sl_next ?_
          obtain ⟨hc, h⟩ := ifs h
          have hp73 := hc
          refine sl_pe orc_ok (Sat.rowAt S 0 rfl) fr rfl rfl rfl rfl rfl rfl rfl rfl rfl (Sat.rowLen S 0 rfl) (Sat.rowHb S 0 rfl hc) fun a fr => ?_
          refine sl_str orc_ok fr rfl rfl rfl rfl rfl rfl rfl S hp73 ?_
          intro w S
          refine ⟨(Sat.mask S [false]), ?_⟩
          obtain ⟨hc, h⟩ := ifs h
          have hp74 := hc
          refine sl_pe orc_ok (Sat.rowAt S 0 rfl) fr rfl rfl rfl rfl rfl rfl rfl rfl rfl (Sat.rowLen S 0 rfl) (Sat.rowHb S 0 rfl hc) fun a fr => ?_
          refine sl_str orc_ok fr rfl rfl rfl rfl rfl rfl rfl S hp74 ?_
          intro w S
          refine ⟨(Sat.mask S [false]), ?_⟩
          refine sl_end ?_
          refine then_n ?_
          refine wp_region_lit ?_
          refine wl_run orc_ok 2 rfl fr fun a fr => ?_
          refine wpList_nil ?_
          refine blk_n ?_
          exact ⟨(List.set (List.set l1 (Int.toNat (IntKind.wrap .i64 (a3 + x2))) (List.getD l1 (Int.toNat (IntKind.wrap .i64 (a3 + x6))) 0)) (Int.toNat (IntKind.wrap .i64 (a3 + x6))) (List.getD l1 (Int.toNat (IntKind.wrap .i64 (a3 + x2))) 0)), x6, fr.sub ⟨rfl, rfl, rfl, rfl, trivial⟩, S, h⟩
set_option maxRecDepth 100000 in
set_option maxHeartbeats 4000000 in
theorem heapSortOrdered_uint32.walk (k : Nat) (A0 : Option Addr) (c0 n0 : Nat) (l0 : List Int) (a1 : Int) (a2 : Int) {w0 w : World} {R : List Asn} (m0 : n0 ≤ c0 ∧ c0 ≤ maxLen) (v1 : (Lit.int .i64 a1).wf = true) (v2 : (Lit.int .i64 a2).wf = true) (S : Sat w0 w (rowA .u32 31 A0 c0 n0 l0 :: R)) {r : List Int} (h : heapSortOrdered_uint32.f k n0 l0 a1 a2 = some r) :
    Calls Tryz.prog 102 #[(.slice A0 n0 c0), (.int .i64 a1), (.int .i64 a2)] w fun e w' => e = .returned (.tuple #[]) ∧ Sat w0 w' (rowA .u32 31 A0 c0 n0 r :: R) := by
  unfold heapSortOrdered_uint32.f at h
  refine calls_start (N := 56) [(.slice A0 n0 c0), (.int .i64 a1), (.int .i64 a2)] Tryz.func102 rfl rfl rfl (vok_c (vok_sl m0) (vok_c v1 (vok_c v2 rfl))) fun a fr => ?_
  refine wp_seq ?_
  refine wp_region_lit ?_
  refine wl_run orc_ok 2 rfl fr fun a fr => ?_
  refine wpList_nil ?_
  refine then_n ?_
  refine wp_seq ?_
  refine wp_region_lit ?_
  refine wl_run orc_ok 1 rfl fr fun a fr => ?_
  refine wpList_nil ?_
  refine then_n ?_
  refine wp_seq ?_
  refine wp_region_lit ?_
  refine wl_run orc_ok 4 rfl fr fun a fr => ?_
  refine wpList_nil ?_
  refine then_n ?_
  refine wp_seq ?_
  refine wp_seq ?_
  refine wp_region_lit ?_
  refine wl_run orc_ok 4 rfl fr fun a fr => ?_
  obtain ⟨y1, hx, h⟩ := lt_h h
  have fr := fr.spell (d := 9) rfl (congrArg (Value.int .i64) hx)
  refine wpList_nil ?_
  refine then_n ?_
  refine wp_block ?_
  refine cw_loop (fun k1 a w => ∃ l2 : List Int, ∃ x3 : Int, Fr 56 a [(0, (.slice A0 n0 c0)), (6, (.int .i64 a1)), (7, (.int .i64 (0 : Int))), (8, (.int .i64 (IntKind.wrap .i64 (a2 - a1)))), (9, (.int .i64 x3))] ∧ Sat w0 w (rowA .u32 31 A0 c0 n0 l2 :: R) ∧ (heapSortOrdered_uint32.l1 k1 n0 a2 a1 l2 x3) = some r) k ⟨l0, y1, fr.sub ⟨rfl, rfl, rfl, rfl, rfl, trivial⟩, S, h⟩ ?_ ?_
  · rintro a w ⟨l2, x3, -, -, h⟩
    simp only [heapSortOrdered_uint32.l1] at h
    cases h
  · rintro k1 a w ⟨l2, x3, fr, S, h⟩
    rw [heapSortOrdered_uint32.l1] at h
    refine wp_seq ?_
    refine wp_seq ?_
    refine wp_region_lit ?_
    refine wl_run orc_ok 2 rfl fr fun a fr => ?_
    refine wpList_nil ?_
    refine then_n ?_
    refine cw_if fr rfl h (fun h => ?_) (fun h => ?_)
    · refine wp_skip ?_
      refine then_n ?_
      refine wp_seq ?_
      refine wp_block ?_
      refine wp_region_lit ?_
      refine wl_run orc_ok 4 rfl fr fun a fr => ?_
      obtain ⟨r6, hr, h⟩ := bnd h
      refine wl_call fr rfl rfl rfl rfl en119 (siftDownOrdered_uint32.walk k1 A0 c0 n0 l2 x3 (IntKind.wrap .i64 (a2 - a1)) a1 (fr.slice (d := 22) rfl) (fr.int (d := 23) rfl) (fr.int (d := 24) rfl) (fr.int (d := 25) rfl) S hr) ?_
      rintro _ w ⟨rfl, S⟩
      refine ⟨_, rfl, rfl, fun a fr => ?_⟩
      refine wpList_nil ?_
      refine blk_n ?_
      refine then_n ?_
      refine wp_region_lit ?_
      refine wl_run orc_ok 3 rfl fr fun a fr => ?_
      refine wpList_nil ?_
      exact ⟨r6, (IntKind.wrap .i64 (x3 - (1 : Int))), fr.sub ⟨rfl, rfl, rfl, rfl, rfl, trivial⟩, S, h⟩
    · refine wp_exit ?_
      refine then_e ?_
      refine then_e ?_
      refine blk_y ?_
      refine then_n ?_
      refine wp_seq ?_
      refine wp_region_lit ?_
      refine wl_run orc_ok 3 rfl fr fun a fr => ?_
      obtain ⟨y7, hx, h⟩ := lt_h h
      have fr := fr.spell (d := 10) rfl (congrArg (Value.int .i64) hx)
      refine wpList_nil ?_
      refine then_n ?_
      refine wp_block ?_
      refine cw_loop (fun k2 a w => ∃ l8 : List Int, ∃ x9 : Int, Fr 56 a [(0, (.slice A0 n0 c0)), (6, (.int .i64 a1)), (7, (.int .i64 (0 : Int))), (10, (.int .i64 x9))] ∧ Sat w0 w (rowA .u32 31 A0 c0 n0 l8 :: R) ∧ (heapSortOrdered_uint32.l2 k2 a1 n0 l8 x9) = some r) k1 ⟨l2, y7, fr.sub ⟨rfl, rfl, rfl, rfl, trivial⟩, S, h⟩ ?_ ?_
      · rintro a w ⟨l8, x9, -, -, h⟩
        simp only [heapSortOrdered_uint32.l2] at h
        cases h
      · rintro k2 a w ⟨l8, x9, fr, S, h⟩
        rw [heapSortOrdered_uint32.l2] at h
        refine wp_seq ?_
        refine wp_seq ?_
        refine wp_region_lit ?_
        refine wl_run orc_ok 2 rfl fr fun a fr => ?_
        refine wpList_nil ?_
        refine then_n ?_
        refine cw_if fr rfl h (fun h => ?_) (fun h => ?_)
        · refine wp_skip ?_
          refine then_n ?_
          refine wp_seq ?_
          refine wp_block ?_
          refine wp_seq ?_
          refine wp_region_ph [2, 3, 4, 5] [16, 17, 18, 19] [.one (2, true, some 35), .one (3, true, some 36), .one (4, true, some 37), .one (5, true, some 38)] [.one ⟨true, some 35, (Go.Op.move (Go.Operand.tmp 0)), 72, none⟩,
    .one ⟨true, some 36, (Go.Op.move (Go.Operand.tmp 6)), 3, none⟩,
    .one ⟨true, some 37, (Go.Op.move (Go.Operand.tmp 10)), 3, none⟩,
    .one ⟨true, some 38, (Go.Op.binOp Go.BinOp.add 3 (Go.Operand.tmp 36) (Go.Operand.tmp 37) 3), 3, none⟩] [.one (0, true, some 33), .one (1, true, some 34), .one (6, true, some 39), .one (7, true, some 40), .one (8, true, some 41), .one (9, true, some 42), .one (10, true, some 43), .one (11, true, some 44), .one (12, true, some 45), .one (13, true, some 46), .one (14, true, some 47), .one (15, true, some 48)]
            [.one ⟨true, some 33, (Go.Op.move (Go.Operand.tmp 0)), 72, none⟩,
    .one ⟨true, some 34, (Go.Op.move (Go.Operand.tmp 6)), 3, none⟩,
    .one ⟨true, some 39, (Go.Op.move (Go.Operand.tmp 0)), 72, none⟩,
    .one ⟨true, some 40, (Go.Op.move (Go.Operand.tmp 6)), 3, none⟩,
    .one ⟨true, some 41, (Go.Op.move (Go.Operand.tmp 10)), 3, none⟩,
    .one ⟨true, some 42, (Go.Op.binOp Go.BinOp.add 3 (Go.Operand.tmp 40) (Go.Operand.tmp 41) 3), 3, none⟩,
    .one ⟨true, some 43, (Go.Op.indexAddr 72 (Go.Operand.tmp 39) (Go.Operand.tmp 42)), 0, none⟩,
    .one ⟨true, some 44, (Go.Op.load 31 (Go.Operand.tmp 43)), 31, none⟩,
    .one ⟨true, some 45, (Go.Op.move (Go.Operand.tmp 0)), 72, none⟩,
    .one ⟨true, some 46, (Go.Op.move (Go.Operand.tmp 6)), 3, none⟩,
    .one ⟨true, some 47, (Go.Op.indexAddr 72 (Go.Operand.tmp 45) (Go.Operand.tmp 46)), 0, none⟩,
    .one ⟨true, some 48, (Go.Op.load 31 (Go.Operand.tmp 47)), 31, none⟩]
            [.one (16, true, some 49), .one (17, false, none), .one (18, true, some 50), .one (19, false, none)]
            [.one ⟨true, some 49, (Go.Op.indexAddr 72 (Go.Operand.tmp 33) (Go.Operand.tmp 34)), 0, none⟩,
    .one ⟨false, none, (Go.Op.store 31 (Go.Operand.tmp 49) (Go.Operand.tmp 44)), 0, none⟩,
    .one ⟨true, some 50, (Go.Op.indexAddr 72 (Go.Operand.tmp 35) (Go.Operand.tmp 38)), 0, none⟩,
    .one ⟨false, none, (Go.Op.store 31 (Go.Operand.tmp 50) (Go.Operand.tmp 48)), 0, none⟩]
            (fun w => Sat w0 w (rowA .u32 31 A0 c0 n0 l8 :: R)) (fun w => Sat w0 w (R)) rfl (by kernel_rfl) (by kernel_rfl) (by kernel_rfl) (by kernel_rfl) (S.drew.mask [true]) (fun _ S => S.mask [false]) ?_
          have S := S.drew
          refine sl_run orc_ok 4 rfl fr fun a fr => ?_
          refine sl_next ?_
          refine sl_run orc_ok 6 rfl fr fun a fr => ?_
          obtain ⟨hc, h⟩ := ifs h
          refine sl_ld orc_ok (fun _ S => Sat.rowAt S 0 rfl) fr rfl rfl rfl rfl rfl rfl rfl rfl rfl rfl rfl rfl rfl rfl rfl rfl (Sat.rowLen S 0 rfl) rfl (Sat.rowHb S 0 rfl hc) (Sat.mask S [true]) fun a fr => ?_
          refine sl_run orc_ok 2 rfl fr fun a fr => ?_
          obtain ⟨hc, h⟩ := ifs h
          refine sl_ld orc_ok (fun _ S => Sat.rowAt S 0 rfl) fr rfl rfl rfl rfl rfl rfl rfl rfl rfl rfl rfl rfl rfl rfl rfl rfl (Sat.rowLen S 0 rfl) rfl (Sat.rowHb S 0 rfl hc) (Sat.mask S [true]) fun a fr => ?_
          refine sl_next ?_
          obtain ⟨hc, h⟩ := ifs h
          have hp49 := hc
          refine sl_pe orc_ok (Sat.rowAt S 0 rfl) fr rfl rfl rfl rfl rfl rfl rfl rfl rfl (Sat.rowLen S 0 rfl) (Sat.rowHb S 0 rfl hc) fun a fr => ?_
          refine sl_str orc_ok fr rfl rfl rfl rfl rfl rfl rfl S hp49 ?_
          intro w S
          refine ⟨(Sat.mask S [false]), ?_⟩
          obtain ⟨hc, h⟩ := ifs h
          have hp50 := hc
          refine sl_pe orc_ok (Sat.rowAt S 0 rfl) fr rfl rfl rfl rfl rfl rfl rfl rfl rfl (Sat.rowLen S 0 rfl) (Sat.rowHb S 0 rfl hc) fun a fr => ?_
          refine sl_str orc_ok fr rfl rfl rfl rfl rfl rfl rfl S hp50 ?_
          intro w S
          refine ⟨(Sat.mask S [false]), ?_⟩
          refine sl_end ?_
          refine then_n ?_
          refine wp_region_lit ?_
          refine wl_run orc_ok 4 rfl fr fun a fr => ?_
          obtain ⟨r12, hr, h⟩ := bnd h
          refine wl_call fr rfl rfl rfl rfl en119 (siftDownOrdered_uint32.walk k2 A0 c0 n0 (List.set (List.set l8 (Int.toNat a1) (List.getD l8 (Int.toNat (IntKind.wrap .i64 (a1 + x9))) 0)) (Int.toNat (IntKind.wrap .i64 (a1 + x9))) (List.getD l8 (Int.toNat a1) 0)) (0 : Int) x9 a1 (fr.slice (d := 51) rfl) (fr.int (d := 52) rfl) (fr.int (d := 53) rfl) (fr.int (d := 54) rfl) S hr) ?_
          rintro _ w ⟨rfl, S⟩
          refine ⟨_, rfl, rfl, fun a fr => ?_⟩
          refine wpList_nil ?_
          refine blk_n ?_
          refine then_n ?_
          refine wp_region_lit ?_
          refine wl_run orc_ok 3 rfl fr fun a fr => ?_
          refine wpList_nil ?_
          exact ⟨r12, (IntKind.wrap .i64 (x9 - (1 : Int))), fr.sub ⟨rfl, rfl, rfl, rfl, trivial⟩, S, h⟩
        · refine wp_exit ?_
          refine then_e ?_
          refine then_e ?_
          refine blk_y ?_
          refine end_ret ?_
          injection h with h
          subst h
          refine ret0 fr rfl ?_
          exact ⟨rfl, S.mask [true]⟩
set_option maxRecDepth 100000 in
set_option maxHeartbeats 4000000 in
theorem order2Ordered_uint32.walk (A0 : Option Addr) (c0 : Nat) (l0 : List Int) (a1 : Int) (a2 : Int) (g903 : Nat) (x903 : Int) {w0 w : World} {R : List Asn} (rk0 : Rk .u32 w0 A0 l0) (m0 : l0.length ≤ c0 ∧ c0 ≤ maxLen) (v1 : (Lit.int .i64 a1).wf = true) (v2 : (Lit.int .i64 a2).wf = true) (S : Sat w0 w (stA 3 g903 [(.int .i64 x903)] :: R)) {r : Int × Int × Int} (h : order2Ordered_uint32.f l0 a1 a2 x903 = some r) :
    Calls Tryz.prog 125 #[(.slice A0 (List.length l0) c0), (.int .i64 a1), (.int .i64 a2), (.pointer (some ⟨g903, 0, none⟩))] w fun e w' => e = .returned (.tuple #[(.int .i64 r.1), (.int .i64 r.2.1)]) ∧ vok (.tuple #[(.int .i64 r.1), (.int .i64 r.2.1)]) = true ∧ Sat w0 w' (stA 3 g903 [(.int .i64 r.2.2)] :: R) := by
  unfold order2Ordered_uint32.f at h
  refine calls_start (N := 28) [(.slice A0 (List.length l0) c0), (.int .i64 a1), (.int .i64 a2), (.pointer (some ⟨g903, 0, none⟩))] Tryz.func125 rfl rfl rfl (vok_c (vok_sl m0) (vok_c v1 (vok_c v2 (vok_c rfl rfl)))) fun a fr => ?_
  refine wp_seq ?_
  refine wp_region_lit ?_
  refine wl_run orc_ok 2 rfl fr fun a fr => ?_
  refine wpList_nil ?_
  refine then_n ?_
  refine wp_seq ?_
  refine wp_seq ?_
  refine wp_region_sl [.one (0, true, some 10), .one (1, true, some 11), .one (2, true, some 12), .one (3, true, some 13), .one (4, true, some 14), .one (5, true, some 15), .one (6, true, some 16), .one (7, true, some 17), .one (8, false, some 18)]
    [.one ⟨true, some 10, (Go.Op.move (Go.Operand.tmp 0)), 72, none⟩,
    .one ⟨true, some 11, (Go.Op.move (Go.Operand.tmp 2)), 3, none⟩,
    .one ⟨true, some 12, (Go.Op.indexAddr 72 (Go.Operand.tmp 10) (Go.Operand.tmp 11)), 0, none⟩,
    .one ⟨true, some 13, (Go.Op.load 31 (Go.Operand.tmp 12)), 31, none⟩,
    .one ⟨true, some 14, (Go.Op.move (Go.Operand.tmp 0)), 72, none⟩,
    .one ⟨true, some 15, (Go.Op.move (Go.Operand.tmp 1)), 3, none⟩,
    .one ⟨true, some 16, (Go.Op.indexAddr 72 (Go.Operand.tmp 14) (Go.Operand.tmp 15)), 0, none⟩,
    .one ⟨true, some 17, (Go.Op.load 31 (Go.Operand.tmp 16)), 31, none⟩,
    .one ⟨false, some 18, (Go.Op.call { callee := (Go.Callee.value (Go.Operand.func 107)), args := #[(Go.Operand.tmp 13), (Go.Operand.tmp 17)], argTypes := #[31, 31] }), 4, none⟩]
    (fun w => Sat w0 w (stA 3 g903 [(.int .i64 x903)] :: R)) rfl (by kernel_rfl) (by kernel_rfl) (S.drew.mask [true]) ?_
  have S := S.drew
  refine sl_run orc_ok 2 rfl fr fun a fr => ?_
  obtain ⟨hc, h⟩ := ifs h
  refine sl_ld orc_ok (fun _ S => Rk.at rk0 S) fr rfl rfl rfl rfl rfl rfl rfl rfl rfl rfl rfl rfl rfl rfl rfl rfl rfl rfl hc (Sat.mask S [true]) fun a fr => ?_
  refine sl_run orc_ok 2 rfl fr fun a fr => ?_
  obtain ⟨hc, h⟩ := ifs h
  refine sl_ld orc_ok (fun _ S => Rk.at rk0 S) fr rfl rfl rfl rfl rfl rfl rfl rfl rfl rfl rfl rfl rfl rfl rfl rfl rfl rfl hc (Sat.mask S [true]) fun a fr => ?_
  obtain ⟨r1, hr, h⟩ := bnd h
  refine sl_call fr rfl rfl rfl rfl rfl en107 (Less_uint32.walk (List.getD l0 (Int.toNat a2) 0) (List.getD l0 (Int.toNat a1) 0) (fr.int (d := 13) rfl) (fr.int (d := 17) rfl) S hr) ?_
  rintro _ w ⟨rfl, hv, S⟩
  refine ⟨_, rfl, hv, (Sat.mask S [true]), fun a fr => ?_⟩
  refine sl_end ?_
  refine then_n ?_
  refine cw_if fr rfl h (fun h => ?_) (fun h => ?_)
  · refine wp_seq ?_
    refine wp_region_lit ?_
    refine wl_run orc_ok 2 rfl fr fun a fr => ?_
    refine wl_ldf orc_ok (Sat.varAt S 0 rfl) fr rfl rfl rfl rfl rfl rfl rfl fun a fr => ?_
    refine wl_run orc_ok 2 rfl fr fun a fr => ?_
    refine wl_stv orc_ok fr rfl rfl rfl rfl rfl rfl rfl rfl S ?_
    intro w S
    obtain ⟨x2, hx, h⟩ := lt_h h
    have S : Sat w0 w (stA 3 g903 [(.int .i64 (IntKind.wrap .i64 (x903 + (1 : Int))))] :: R) := S
    rw [hx] at S
    refine wpList_nil ?_
    refine then_n ?_
    refine wp_seq ?_
    refine wp_region_lit ?_
    refine wl_run orc_ok 4 rfl fr fun a fr => ?_
    refine wpList_nil ?_
    refine then_n ?_
    refine wp_ret ?_
    refine then_r ?_
    injection h with h
    subst h
    refine ret2 fr rfl rfl rfl ?_
    exact ⟨rfl, vok_tupii fr (d := 8) (e := 9) rfl rfl, S.mask [true]⟩
  · refine wp_skip ?_
    refine then_n ?_
    refine wp_seq ?_
    refine wp_region_lit ?_
    refine wl_run orc_ok 4 rfl fr fun a fr => ?_
    refine wpList_nil ?_
    refine then_n ?_
    refine wp_ret ?_
    injection h with h
    subst h
    refine ret2 fr rfl rfl rfl ?_
    exact ⟨rfl, vok_tupii fr (d := 8) (e := 9) rfl rfl, S.mask [true]⟩
set_option maxRecDepth 100000 in
set_option maxHeartbeats 4000000 in
theorem medianOrdered_uint32.walk (A0 : Option Addr) (c0 : Nat) (l0 : List Int) (a1 : Int) (a2 : Int) (a3 : Int) (g904 : Nat) (x904 : Int) {w0 w : World} {R : List Asn} (rk0 : Rk .u32 w0 A0 l0) (m0 : l0.length ≤ c0 ∧ c0 ≤ maxLen) (v1 : (Lit.int .i64 a1).wf = true) (v2 : (Lit.int .i64 a2).wf = true) (v3 : (Lit.int .i64 a3).wf = true) (S : Sat w0 w (stA 3 g904 [(.int .i64 x904)] :: R)) {r : Int × Int} (h : medianOrdered_uint32.f l0 a1 a2 a3 x904 = some r) :
    Calls Tryz.prog 123 #[(.slice A0 (List.length l0) c0), (.int .i64 a1), (.int .i64 a2), (.int .i64 a3), (.pointer (some ⟨g904, 0, none⟩))] w fun e w' => e = .returned (.int .i64 r.1) ∧ vok (.int .i64 r.1) = true ∧ Sat w0 w' (stA 3 g904 [(.int .i64 r.2)] :: R) := by
  unfold medianOrdered_uint32.f at h
  refine calls_start (N := 36) [(.slice A0 (List.length l0) c0), (.int .i64 a1), (.int .i64 a2), (.int .i64 a3), (.pointer (some ⟨g904, 0, none⟩))] Tryz.func123 rfl rfl rfl (vok_c (vok_sl m0) (vok_c v1 (vok_c v2 (vok_c v3 (vok_c rfl rfl))))) fun a fr => ?_
  refine wp_seq ?_
  refine wp_region_lit ?_
  refine wl_run orc_ok 1 rfl fr fun a fr => ?_
  refine wpList_nil ?_
  refine then_n ?_
  refine wp_seq ?_
  refine wp_region_lit ?_
  refine wl_run orc_ok 4 rfl fr fun a fr => ?_
  obtain ⟨r1, hr, h⟩ := bnd h
  refine wl_call fr rfl rfl rfl rfl en125 (order2Ordered_uint32.walk A0 c0 l0 a1 a2 g904 x904 rk0 (fr.slice (d := 12) rfl) (fr.int (d := 13) rfl) (fr.int (d := 14) rfl) S hr) ?_
  rintro _ w ⟨rfl, hv, S⟩
  refine ⟨_, rfl, hv, fun a fr => ?_⟩
  refine wl_run orc_ok 5 rfl fr fun a fr => ?_
  refine wpList_nil ?_
  refine then_n ?_
  refine wp_seq ?_
  refine wp_region_lit ?_
  refine wl_run orc_ok 4 rfl fr fun a fr => ?_
  obtain ⟨r2, hr, h⟩ := bnd h
  refine wl_call fr rfl rfl rfl rfl en125 (order2Ordered_uint32.walk A0 c0 l0 r1.2.1 a3 g904 r1.2.2 rk0 (fr.slice (d := 20) rfl) (fr.int (d := 21) rfl) (fr.int (d := 22) rfl) S hr) ?_
  rintro _ w ⟨rfl, hv, S⟩
  refine ⟨_, rfl, hv, fun a fr => ?_⟩
  refine wl_run orc_ok 5 rfl fr fun a fr => ?_
  refine wpList_nil ?_
  refine then_n ?_
  refine wp_seq ?_
  refine wp_region_lit ?_
  refine wl_run orc_ok 4 rfl fr fun a fr => ?_
  obtain ⟨r3, hr, h⟩ := bnd h
  refine wl_call fr rfl rfl rfl rfl en125 (order2Ordered_uint32.walk A0 c0 l0 r1.1 r2.1 g904 r2.2.2 rk0 (fr.slice (d := 28) rfl) (fr.int (d := 29) rfl) (fr.int (d := 30) rfl) S hr) ?_
  rintro _ w ⟨rfl, hv, S⟩
  refine ⟨_, rfl, hv, fun a fr => ?_⟩
  refine wl_run orc_ok 5 rfl fr fun a fr => ?_
  refine wpList_nil ?_
  refine then_n ?_
  refine wp_seq ?_
  refine wp_region_lit ?_
  refine wl_run orc_ok 2 rfl fr fun a fr => ?_
  refine wpList_nil ?_
  refine then_n ?_
  refine wp_ret ?_
  injection h with h
  subst h
  refine ret1 fr rfl rfl ?_
  exact ⟨rfl, fr.vok (d := 10) rfl, S.mask [true]⟩
set_option maxRecDepth 100000 in
set_option maxHeartbeats 4000000 in
theorem medianAdjacentOrdered_uint32.walk (A0 : Option Addr) (c0 : Nat) (l0 : List Int) (a1 : Int) (g902 : Nat) (x902 : Int) {w0 w : World} {R : List Asn} (rk0 : Rk .u32 w0 A0 l0) (m0 : l0.length ≤ c0 ∧ c0 ≤ maxLen) (v1 : (Lit.int .i64 a1).wf = true) (S : Sat w0 w (stA 3 g902 [(.int .i64 x902)] :: R)) {r : Int × Int} (h : medianAdjacentOrdered_uint32.f l0 a1 x902 = some r) :
    Calls Tryz.prog 122 #[(.slice A0 (List.length l0) c0), (.int .i64 a1), (.pointer (some ⟨g902, 0, none⟩))] w fun e w' => e = .returned (.int .i64 r.1) ∧ vok (.int .i64 r.1) = true ∧ Sat w0 w' (stA 3 g902 [(.int .i64 r.2)] :: R) := by
  unfold medianAdjacentOrdered_uint32.f at h
  refine calls_start (N := 15) [(.slice A0 (List.length l0) c0), (.int .i64 a1), (.pointer (some ⟨g902, 0, none⟩))] Tryz.func122 rfl rfl rfl (vok_c (vok_sl m0) (vok_c v1 (vok_c rfl rfl))) fun a fr => ?_
  refine wp_seq ?_
  refine wp_region_lit ?_
  refine wl_run orc_ok 1 rfl fr fun a fr => ?_
  refine wpList_nil ?_
  refine then_n ?_
  refine wp_seq ?_
  refine wp_region_lit ?_
  refine wl_run orc_ok 7 rfl fr fun a fr => ?_
  obtain ⟨r1, hr, h⟩ := bnd h
  refine wl_call fr rfl rfl rfl rfl en123 (medianOrdered_uint32.walk A0 c0 l0 (IntKind.wrap .i64 (a1 - (1 : Int))) a1 (IntKind.wrap .i64 (a1 + (1 : Int))) g902 x902 rk0 (fr.slice (d := 7) rfl) (fr.int (d := 9) rfl) (fr.int (d := 10) rfl) (fr.int (d := 12) rfl) S hr) ?_
  rintro _ w ⟨rfl, hv, S⟩
  refine ⟨_, rfl, hv, fun a fr => ?_⟩
  refine wl_run orc_ok 1 rfl fr fun a fr => ?_
  refine wpList_nil ?_
  refine then_n ?_
  refine wp_ret ?_
  injection h with h
  subst h
  refine ret1 fr rfl rfl ?_
  exact ⟨rfl, fr.vok (d := 6) rfl, S.mask [true]⟩
set_option maxRecDepth 100000 in
set_option maxHeartbeats 4000000 in
theorem choosePivotOrdered_uint32.walk (A0 : Option Addr) (c0 : Nat) (l0 : List Int) (a1 : Int) (a2 : Int) {w0 w : World} {R : List Asn} (rk0 : Rk .u32 w A0 l0) (m0 : l0.length ≤ c0 ∧ c0 ≤ maxLen) (v1 : (Lit.int .i64 a1).wf = true) (v2 : (Lit.int .i64 a2).wf = true) (S : Sat w0 w R) {r : Int × Int} (h : choosePivotOrdered_uint32.f l0 a1 a2 = some r) :
    Calls Tryz.prog 104 #[(.slice A0 (List.length l0) c0), (.int .i64 a1), (.int .i64 a2)] w fun e w' => e = .returned (.tuple #[(.int .i64 r.1), (.int .i64 r.2)]) ∧ vok (.tuple #[(.int .i64 r.1), (.int .i64 r.2)]) = true ∧ Sat w0 w' R := by
  have key : ∀ w0 : World, w0 = w → Sat w0 w [] → Calls Tryz.prog 104 #[(.slice A0 (List.length l0) c0), (.int .i64 a1), (.int .i64 a2)] w fun e w' => e = .returned (.tuple #[(.int .i64 r.1), (.int .i64 r.2)]) ∧ vok (.tuple #[(.int .i64 r.1), (.int .i64 r.2)]) = true ∧ Sat w0 w' [] := by
    clear S
    intro w0 hw S
    rw [← hw] at rk0
    clear hw
    unfold choosePivotOrdered_uint32.f at h
    refine calls_start (N := 57) [(.slice A0 (List.length l0) c0), (.int .i64 a1), (.int .i64 a2)] Tryz.func104 rfl rfl rfl (vok_c (vok_sl m0) (vok_c v1 (vok_c v2 rfl))) fun a fr => ?_
    refine wp_seq ?_
    refine wp_region_lit ?_
    refine wl_run orc_ok 2 rfl fr fun a fr => ?_
    refine wpList_nil ?_
    refine then_n ?_
    refine wp_seq ?_
    refine wp_region_lit ?_
    refine wl_run orc_ok 4 rfl fr fun a fr => ?_
    refine wpList_nil ?_
    refine then_n ?_
    refine wp_seq ?_
    refine wp_region_lit ?_
    refine wl_allocv fr rfl rfl rfl rfl zero3 rfl rfl S ?_
    intro w g1 S a fr
    refine wpList_nil ?_
    refine then_n ?_
    refine wp_seq ?_
    refine wp_region_lit ?_
    refine wl_run orc_ok 6 rfl fr fun a fr => ?_
    obtain ⟨y2, hx, h⟩ := lt_h h
    have fr := fr.spell (d := 10) rfl (congrArg (Value.int .i64) hx)
    refine wpList_nil ?_
    refine then_n ?_
    refine wp_seq ?_
    refine wp_region_lit ?_
    refine wl_run orc_ok 6 rfl fr fun a fr => ?_
    obtain ⟨y3, hx, h⟩ := lt_h h
    have fr := fr.spell (d := 11) rfl (congrArg (Value.int .i64) hx)
    refine wpList_nil ?_
    refine then_n ?_
    refine wp_seq ?_
    refine wp_region_lit ?_
    refine wl_run orc_ok 6 rfl fr fun a fr => ?_
    obtain ⟨y4, hx, h⟩ := lt_h h
    have fr := fr.spell (d := 12) rfl (congrArg (Value.int .i64) hx)
    refine wpList_nil ?_
    refine then_n ?_
    refine cw_cut (fun a w => ∃ x5 : Int, ∃ x6 : Int, Fr 57 a [(9, (.pointer (some ⟨g1, 0, none⟩))), (11, (.int .i64 x6))] ∧ Sat w0 w [stA 3 g1 [(.int .i64 x5)]] ∧ (choosePivotOrdered_uint32.j1 x5 x6) = some r) ?_ ?_
    · refine wp_seq ?_
      refine wp_region_lit ?_
      refine wl_run orc_ok 2 rfl fr fun a fr => ?_
      refine wpList_nil ?_
      refine then_n ?_
      refine cw_if fr rfl h (fun h => ?_) (fun h => ?_)
      · refine cw_cut (fun a w => ∃ x7 : Int, ∃ x8 : Int, ∃ x9 : Int, ∃ x10 : Int, Fr 57 a [(0, (.slice A0 (List.length l0) c0)), (9, (.pointer (some ⟨g1, 0, none⟩))), (10, (.int .i64 x8)), (11, (.int .i64 x9)), (12, (.int .i64 x10))] ∧ Sat w0 w [stA 3 g1 [(.int .i64 x7)]] ∧ (choosePivotOrdered_uint32.j2 l0 x7 x8 x9 x10) = some r) ?_ ?_
        · refine wp_seq ?_
          refine wp_region_lit ?_
          refine wl_run orc_ok 2 rfl fr fun a fr => ?_
          refine wpList_nil ?_
          refine then_n ?_
          refine cw_if fr rfl h (fun h => ?_) (fun h => ?_)
          · refine wp_seq ?_
            refine wp_region_lit ?_
            refine wl_run orc_ok 2 rfl fr fun a fr => ?_
            obtain ⟨r12, hr, h⟩ := bnd h
            refine wl_call fr rfl rfl rfl rfl en122 (medianAdjacentOrdered_uint32.walk A0 c0 l0 y2 g1 (0 : Int) rk0 (fr.slice (d := 35) rfl) (fr.int (d := 36) rfl) S hr) ?_
            rintro _ w ⟨rfl, hv, S⟩
            refine ⟨_, rfl, hv, fun a fr => ?_⟩
            refine wl_run orc_ok 1 rfl fr fun a fr => ?_
            refine wpList_nil ?_
            refine then_n ?_
            refine wp_seq ?_
            refine wp_region_lit ?_
            refine wl_run orc_ok 2 rfl fr fun a fr => ?_
            obtain ⟨r13, hr, h⟩ := bnd h
            refine wl_call fr rfl rfl rfl rfl en122 (medianAdjacentOrdered_uint32.walk A0 c0 l0 y3 g1 r12.2 rk0 (fr.slice (d := 38) rfl) (fr.int (d := 39) rfl) S hr) ?_
            rintro _ w ⟨rfl, hv, S⟩
            refine ⟨_, rfl, hv, fun a fr => ?_⟩
            refine wl_run orc_ok 1 rfl fr fun a fr => ?_
            refine wpList_nil ?_
            refine then_n ?_
            refine wp_region_lit ?_
            refine wl_run orc_ok 2 rfl fr fun a fr => ?_
            obtain ⟨r14, hr, h⟩ := bnd h
            refine wl_call fr rfl rfl rfl rfl en122 (medianAdjacentOrdered_uint32.walk A0 c0 l0 y4 g1 r13.2 rk0 (fr.slice (d := 41) rfl) (fr.int (d := 42) rfl) S hr) ?_
            rintro _ w ⟨rfl, hv, S⟩
            refine ⟨_, rfl, hv, fun a fr => ?_⟩
            refine wl_run orc_ok 1 rfl fr fun a fr => ?_
            refine wpList_nil ?_
            exact ⟨r14.2, r12.1, r13.1, r14.1, fr.sub ⟨rfl, rfl, rfl, rfl, rfl, trivial⟩, S, h⟩
          · refine wp_skip ?_
            exact ⟨(0 : Int), y2, y3, y4, fr.sub ⟨rfl, rfl, rfl, rfl, rfl, trivial⟩, S, h⟩
        · rintro a w ⟨x7, x8, x9, x10, fr, S, h⟩
          rw [choosePivotOrdered_uint32.j2] at h
          refine wp_region_lit ?_
          refine wl_run orc_ok 4 rfl fr fun a fr => ?_
          obtain ⟨r11, hr, h⟩ := bnd h
          refine wl_call fr rfl rfl rfl rfl en123 (medianOrdered_uint32.walk A0 c0 l0 x8 x9 x10 g1 x7 rk0 (fr.slice (d := 44) rfl) (fr.int (d := 45) rfl) (fr.int (d := 46) rfl) (fr.int (d := 47) rfl) S hr) ?_
          rintro _ w ⟨rfl, hv, S⟩
          refine ⟨_, rfl, hv, fun a fr => ?_⟩
          refine wl_run orc_ok 1 rfl fr fun a fr => ?_
          refine wpList_nil ?_
          exact ⟨r11.2, r11.1, fr.sub ⟨rfl, rfl, trivial⟩, S, h⟩
      · refine wp_skip ?_
        exact ⟨(0 : Int), y3, fr.sub ⟨rfl, rfl, trivial⟩, S, h⟩
    · rintro a w ⟨x5, x6, fr, S, h⟩
      rw [choosePivotOrdered_uint32.j1] at h
      refine wp_seq ?_
      refine wp_region_lit ?_
      refine wl_ldf orc_ok (Sat.varAt S 0 rfl) fr rfl rfl rfl rfl rfl rfl rfl fun a fr => ?_
      refine wpList_nil ?_
      refine then_n ?_
      refine wp_block ?_
      refine wp_seq ?_
      refine wp_region_lit ?_
      refine wl_run orc_ok 2 rfl fr fun a fr => ?_
      refine wpList_nil ?_
      refine then_n ?_
      refine cw_if fr rfl h (fun h => ?_) (fun h => ?_)
      · refine wp_seq ?_
        refine wp_region_lit ?_
        refine wl_run orc_ok 3 rfl fr fun a fr => ?_
        refine wpList_nil ?_
        refine then_n ?_
        refine wp_ret ?_
        refine blk_r ?_
        injection h with h
        subst h
        refine ret2 fr rfl rfl rfl ?_
        exact ⟨rfl, vok_tupii fr (d := 6) (e := 7) rfl rfl, S.mask [false]⟩
      · refine wp_seq ?_
        refine wp_region_lit ?_
        refine wl_run orc_ok 2 rfl fr fun a fr => ?_
        refine wpList_nil ?_
        refine then_n ?_
        refine cw_if fr rfl h (fun h => ?_) (fun h => ?_)
        · refine wp_seq ?_
          refine wp_region_lit ?_
          refine wl_run orc_ok 3 rfl fr fun a fr => ?_
          refine wpList_nil ?_
          refine then_n ?_
          refine wp_ret ?_
          refine blk_r ?_
          injection h with h
          subst h
          refine ret2 fr rfl rfl rfl ?_
          exact ⟨rfl, vok_tupii fr (d := 6) (e := 7) rfl rfl, S.mask [false]⟩
        · refine wp_seq ?_
          refine wp_region_lit ?_
          refine wl_run orc_ok 3 rfl fr fun a fr => ?_
          refine wpList_nil ?_
          refine then_n ?_
          refine wp_ret ?_
          refine blk_r ?_
          injection h with h
          subst h
          refine ret2 fr rfl rfl rfl ?_
          exact ⟨rfl, vok_tupii fr (d := 6) (e := 7) rfl rfl, S.mask [false]⟩
  exact (key w rfl (Sat.start w)).mono fun e w' ⟨h1, h2, h3⟩ => ⟨h1, h2, S.new h3.below⟩
set_option maxRecDepth 100000 in
set_option maxHeartbeats 4000000 in
theorem reverseRangeOrdered_uint32.walk (k : Nat) (A0 : Option Addr) (c0 n0 : Nat) (l0 : List Int) (a1 : Int) (a2 : Int) {w0 w : World} {R : List Asn} (m0 : n0 ≤ c0 ∧ c0 ≤ maxLen) (v1 : (Lit.int .i64 a1).wf = true) (v2 : (Lit.int .i64 a2).wf = true) (S : Sat w0 w (rowA .u32 31 A0 c0 n0 l0 :: R)) {r : List Int} (h : reverseRangeOrdered_uint32.f k n0 l0 a1 a2 = some r) :
    Calls Tryz.prog 105 #[(.slice A0 n0 c0), (.int .i64 a1), (.int .i64 a2)] w fun e w' => e = .returned (.tuple #[]) ∧ Sat w0 w' (rowA .u32 31 A0 c0 n0 r :: R) := by
  unfold reverseRangeOrdered_uint32.f at h
  refine calls_start (N := 32) [(.slice A0 n0 c0), (.int .i64 a1), (.int .i64 a2)] Tryz.func105 rfl rfl rfl (vok_c (vok_sl m0) (vok_c v1 (vok_c v2 rfl))) fun a fr => ?_
  refine wp_seq ?_
  refine wp_region_lit ?_
  refine wl_run orc_ok 2 rfl fr fun a fr => ?_
  refine wpList_nil ?_
  refine then_n ?_
  refine wp_seq ?_
  refine wp_region_lit ?_
  refine wl_run orc_ok 3 rfl fr fun a fr => ?_
  refine wpList_nil ?_
  refine then_n ?_
  refine wp_block ?_
  refine cw_loop (fun k1 a w => ∃ l1 : List Int, ∃ x2 : Int, ∃ x3 : Int, Fr 32 a [(0, (.slice A0 n0 c0)), (6, (.int .i64 x2)), (7, (.int .i64 x3))] ∧ Sat w0 w (rowA .u32 31 A0 c0 n0 l1 :: R) ∧ (reverseRangeOrdered_uint32.l1 k1 n0 l1 x2 x3) = some r) k ⟨l0, a1, (IntKind.wrap .i64 (a2 - (1 : Int))), fr.sub ⟨rfl, rfl, rfl, trivial⟩, S, h⟩ ?_ ?_
  · rintro a w ⟨l1, x2, x3, -, -, h⟩
    simp only [reverseRangeOrdered_uint32.l1] at h
    cases h
  · rintro k1 a w ⟨l1, x2, x3, fr, S, h⟩
    rw [reverseRangeOrdered_uint32.l1] at h
    refine wp_seq ?_
    refine wp_seq ?_
    refine wp_region_lit ?_
    refine wl_run orc_ok 3 rfl fr fun a fr => ?_
    refine wpList_nil ?_
    refine then_n ?_
    refine cw_if fr rfl h (fun h => ?_) (fun h => ?_)
    · refine wp_skip ?_
      refine then_n ?_
      refine wp_block ?_
      refine wp_seq ?_
      refine wp_region_ph [2, 3] [12, 13, 14, 15] [.one (2, true, some 16), .one (3, true, some 17)] [.one ⟨true, some 16, (Go.Op.move (Go.Operand.tmp 0)), 72, none⟩,
    .one ⟨true, some 17, (Go.Op.move (Go.Operand.tmp 7)), 3, none⟩] [.one (0, true, some 14), .one (1, true, some 15), .one (4, true, some 18), .one (5, true, some 19), .one (6, true, some 20), .one (7, true, some 21), .one (8, true, some 22), .one (9, true, some 23), .one (10, true, some 24), .one (11, true, some 25)]
        [.one ⟨true, some 14, (Go.Op.move (Go.Operand.tmp 0)), 72, none⟩,
    .one ⟨true, some 15, (Go.Op.move (Go.Operand.tmp 6)), 3, none⟩,
    .one ⟨true, some 18, (Go.Op.move (Go.Operand.tmp 0)), 72, none⟩,
    .one ⟨true, some 19, (Go.Op.move (Go.Operand.tmp 7)), 3, none⟩,
    .one ⟨true, some 20, (Go.Op.indexAddr 72 (Go.Operand.tmp 18) (Go.Operand.tmp 19)), 0, none⟩,
    .one ⟨true, some 21, (Go.Op.load 31 (Go.Operand.tmp 20)), 31, none⟩,
    .one ⟨true, some 22, (Go.Op.move (Go.Operand.tmp 0)), 72, none⟩,
    .one ⟨true, some 23, (Go.Op.move (Go.Operand.tmp 6)), 3, none⟩,
    .one ⟨true, some 24, (Go.Op.indexAddr 72 (Go.Operand.tmp 22) (Go.Operand.tmp 23)), 0, none⟩,
    .one ⟨true, some 25, (Go.Op.load 31 (Go.Operand.tmp 24)), 31, none⟩]
        [.one (12, true, some 26), .one (13, false, none), .one (14, true, some 27), .one (15, false, none)]
        [.one ⟨true, some 26, (Go.Op.indexAddr 72 (Go.Operand.tmp 14) (Go.Operand.tmp 15)), 0, none⟩,
    .one ⟨false, none, (Go.Op.store 31 (Go.Operand.tmp 26) (Go.Operand.tmp 21)), 0, none⟩,
    .one ⟨true, some 27, (Go.Op.indexAddr 72 (Go.Operand.tmp 16) (Go.Operand.tmp 17)), 0, none⟩,
    .one ⟨false, none, (Go.Op.store 31 (Go.Operand.tmp 27) (Go.Operand.tmp 25)), 0, none⟩]
        (fun w => Sat w0 w (rowA .u32 31 A0 c0 n0 l1 :: R)) (fun w => Sat w0 w (R)) rfl (by kernel_rfl) (by kernel_rfl) (by kernel_rfl) (by kernel_rfl) (S.drew.mask [true]) (fun _ S => S.mask [false]) ?_
      have S := S.drew
      refine sl_run orc_ok 2 rfl fr fun a fr => ?_
      refine sl_next ?_
      refine sl_run orc_ok 4 rfl fr fun a fr => ?_
      obtain ⟨hc, h⟩ := ifs h
      refine sl_ld orc_ok (fun _ S => Sat.rowAt S 0 rfl) fr rfl rfl rfl rfl rfl rfl rfl rfl rfl rfl rfl rfl rfl rfl rfl rfl (Sat.rowLen S 0 rfl) rfl (Sat.rowHb S 0 rfl hc) (Sat.mask S [true]) fun a fr => ?_
      refine sl_run orc_ok 2 rfl fr fun a fr => ?_
      obtain ⟨hc, h⟩ := ifs h
      refine sl_ld orc_ok (fun _ S => Sat.rowAt S 0 rfl) fr rfl rfl rfl rfl rfl rfl rfl rfl rfl rfl rfl rfl rfl rfl rfl rfl (Sat.rowLen S 0 rfl) rfl (Sat.rowHb S 0 rfl hc) (Sat.mask S [true]) fun a fr => ?_
      refine sl_next ?_
      obtain ⟨hc, h⟩ := ifs h
      have hp26 := hc
      refine sl_pe orc_ok (Sat.rowAt S 0 rfl) fr rfl rfl rfl rfl rfl rfl rfl rfl rfl (Sat.rowLen S 0 rfl) (Sat.rowHb S 0 rfl hc) fun a fr => ?_
      refine sl_str orc_ok fr rfl rfl rfl rfl rfl rfl rfl S hp26 ?_
      intro w S
      refine ⟨(Sat.mask S [false]), ?_⟩
      obtain ⟨hc, h⟩ := ifs h
      have hp27 := hc
      refine sl_pe orc_ok (Sat.rowAt S 0 rfl) fr rfl rfl rfl rfl rfl rfl rfl rfl rfl (Sat.rowLen S 0 rfl) (Sat.rowHb S 0 rfl hc) fun a fr => ?_
      refine sl_str orc_ok fr rfl rfl rfl rfl rfl rfl rfl S hp27 ?_
      intro w S
      refine ⟨(Sat.mask S [false]), ?_⟩
      refine sl_end ?_
      refine then_n ?_
      refine wp_seq ?_
      refine wp_region_lit ?_
      refine wl_run orc_ok 3 rfl fr fun a fr => ?_
      refine wpList_nil ?_
      refine then_n ?_
      refine wp_region_lit ?_
      refine wl_run orc_ok 3 rfl fr fun a fr => ?_
      refine wpList_nil ?_
      refine blk_n ?_
      exact ⟨(List.set (List.set l1 (Int.toNat x2) (List.getD l1 (Int.toNat x3) 0)) (Int.toNat x3) (List.getD l1 (Int.toNat x2) 0)), (IntKind.wrap .i64 (x2 + (1 : Int))), (IntKind.wrap .i64 (x3 - (1 : Int))), fr.sub ⟨rfl, rfl, rfl, trivial⟩, S, h⟩
    · refine wp_exit ?_
      refine then_e ?_
      refine then_e ?_
      refine blk_y ?_
      refine end_ret ?_
      injection h with h
      subst h
      refine ret0 fr rfl ?_
      exact ⟨rfl, S.mask [true]⟩
set_option maxRecDepth 100000 in
set_option maxHeartbeats 4000000 in
theorem partialInsertionSortOrdered_uint32.walk (k : Nat) (A0 : Option Addr) (c0 n0 : Nat) (l0 : List Int) (a1 : Int) (a2 : Int) {w0 w : World} {R : List Asn} (m0 : n0 ≤ c0 ∧ c0 ≤ maxLen) (v1 : (Lit.int .i64 a1).wf = true) (v2 : (Lit.int .i64 a2).wf = true) (S : Sat w0 w (rowA .u32 31 A0 c0 n0 l0 :: R)) {r : Bool × List Int} (h : partialInsertionSortOrdered_uint32.f k n0 l0 a1 a2 = some r) :
    Calls Tryz.prog 106 #[(.slice A0 n0 c0), (.int .i64 a1), (.int .i64 a2)] w fun e w' => e = .returned (.bool r.1) ∧ vok (.bool r.1) = true ∧ Sat w0 w' (rowA .u32 31 A0 c0 n0 r.2 :: R) := by
  unfold partialInsertionSortOrdered_uint32.f at h
  refine calls_start (N := 133) [(.slice A0 n0 c0), (.int .i64 a1), (.int .i64 a2)] Tryz.func106 rfl rfl rfl (vok_c (vok_sl m0) (vok_c v1 (vok_c v2 rfl))) fun a fr => ?_
  refine wp_seq ?_
  refine wp_region_lit ?_
  refine wl_run orc_ok 1 rfl fr fun a fr => ?_
  refine wpList_nil ?_
  refine then_n ?_
  refine wp_seq ?_
  refine wp_region_lit ?_
  refine wl_run orc_ok 3 rfl fr fun a fr => ?_
  refine wpList_nil ?_
  refine then_n ?_
  refine wp_seq ?_
  refine wp_seq ?_
  refine wp_region_lit ?_
  refine wl_run orc_ok 1 rfl fr fun a fr => ?_
  refine wpList_nil ?_
  refine then_n ?_
  refine wp_block ?_
  refine cw_loop (fun k1 a w => ∃ l1 : List Int, ∃ x2 : Int, ∃ x3 : Int, Fr 133 a [(0, (.slice A0 n0 c0)), (1, (.int .i64 a1)), (2, (.int .i64 a2)), (7, (.int .i64 x2)), (8, (.int .i64 x3))] ∧ Sat w0 w (rowA .u32 31 A0 c0 n0 l1 :: R) ∧ (partialInsertionSortOrdered_uint32.l1 k1 a2 n0 a1 l1 x2 x3) = some r) k ⟨l0, (IntKind.wrap .i64 (a1 + (1 : Int))), (0 : Int), fr.sub ⟨rfl, rfl, rfl, rfl, rfl, trivial⟩, S, h⟩ ?_ ?_
  · rintro a w ⟨l1, x2, x3, -, -, h⟩
    simp only [partialInsertionSortOrdered_uint32.l1] at h
    cases h
  · rintro k1 a w ⟨l1, x2, x3, fr, S, h⟩
    rw [partialInsertionSortOrdered_uint32.l1] at h
    refine wp_seq ?_
    refine wp_seq ?_
    refine wp_region_lit ?_
    refine wl_run orc_ok 2 rfl fr fun a fr => ?_
    refine wpList_nil ?_
    refine then_n ?_
    refine cw_if fr rfl h (fun h => ?_) (fun h => ?_)
    · refine wp_skip ?_
      refine then_n ?_
      refine cw_cut (fun a w => ∃ l7 : List Int, ∃ x8 : Int, Fr 133 a [(0, (.slice A0 n0 c0)), (1, (.int .i64 a1)), (2, (.int .i64 a2)), (7, (.int .i64 x8)), (8, (.int .i64 x3))] ∧ Sat w0 w (rowA .u32 31 A0 c0 n0 l7 :: R) ∧ (partialInsertionSortOrdered_uint32.j1 (partialInsertionSortOrdered_uint32.l1 k1 a2 n0 a1) x3 l7 x8) = some r) ?_ ?_
      · refine wp_block ?_
        refine cw_cut (fun a w => ∃ kj2 : Nat, ∃ x9 : Int, Fr 133 a [(0, (.slice A0 n0 c0)), (1, (.int .i64 a1)), (2, (.int .i64 a2)), (7, (.int .i64 x9)), (8, (.int .i64 x3))] ∧ Sat w0 w (rowA .u32 31 A0 c0 n0 l1 :: R) ∧ (partialInsertionSortOrdered_uint32.j2 kj2 (partialInsertionSortOrdered_uint32.l1 k1 a2 n0 a1) a2 l1 a1 n0 x3 x9) = some r) ?_ ?_
        · refine wp_block ?_
          refine cw_loop (fun k4 a w => ∃ x21 : Int, Fr 133 a [(0, (.slice A0 n0 c0)), (1, (.int .i64 a1)), (2, (.int .i64 a2)), (7, (.int .i64 x21)), (8, (.int .i64 x3))] ∧ Sat w0 w (rowA .u32 31 A0 c0 n0 l1 :: R) ∧ (partialInsertionSortOrdered_uint32.l4 k4 (partialInsertionSortOrdered_uint32.l1 k1 a2 n0 a1) a2 n0 l1 a1 x3 x21) = some r) k1 ⟨x2, fr.sub ⟨rfl, rfl, rfl, rfl, rfl, trivial⟩, S, h⟩ ?_ ?_
          · rintro a w ⟨x21, -, -, h⟩
            simp only [partialInsertionSortOrdered_uint32.l4] at h
            cases h
          · rintro k4 a w ⟨x21, fr, S, h⟩
            rw [partialInsertionSortOrdered_uint32.l4] at h
            refine wp_seq ?_
            refine wp_seq ?_
            refine wp_region_sl [.one (0, true, some 17), .one (1, true, some 18), .one (2, true, some 19), .one (3, true, some 20), .one (4, true, some 21), .one (5, true, some 22), .one (6, true, some 23), .one (7, true, some 24), .one (8, true, some 25), .one (9, true, some 26), .one (10, true, some 27), .one (11, true, some 28), .one (12, true, some 29), .one (13, false, some 30), .one (14, true, some 31), .one (15, true, some 32)]
              [.one ⟨true, some 17, (Go.Op.move (Go.Operand.tmp 7)), 3, none⟩,
    .one ⟨true, some 18, (Go.Op.move (Go.Operand.tmp 2)), 3, none⟩,
    .one ⟨true, some 19, (Go.Op.binOp Go.BinOp.lss 3 (Go.Operand.tmp 17) (Go.Operand.tmp 18) 3), 4, none⟩,
    .one ⟨true, some 20, (Go.Op.move (Go.Operand.tmp 19)), 4, none⟩,
    .one ⟨true, some 21, (Go.Op.move (Go.Operand.tmp 0)), 72, some (20, true)⟩,
    .one ⟨true, some 22, (Go.Op.move (Go.Operand.tmp 7)), 3, some (20, true)⟩,
    .one ⟨true, some 23, (Go.Op.indexAddr 72 (Go.Operand.tmp 21) (Go.Operand.tmp 22)), 0, some (20, true)⟩,
    .one ⟨true, some 24, (Go.Op.load 31 (Go.Operand.tmp 23)), 31, some (20, true)⟩,
    .one ⟨true, some 25, (Go.Op.move (Go.Operand.tmp 0)), 72, some (20, true)⟩,
    .one ⟨true, some 26, (Go.Op.move (Go.Operand.tmp 7)), 3, some (20, true)⟩,
    .one ⟨true, some 27, (Go.Op.binOp Go.BinOp.sub 3 (Go.Operand.tmp 26) (Go.Operand.const (Go.Value.int Go.IntKind.i64 1)) 3), 3, some (20, true)⟩,
    .one ⟨true, some 28, (Go.Op.indexAddr 72 (Go.Operand.tmp 25) (Go.Operand.tmp 27)), 0, some (20, true)⟩,
    .one ⟨true, some 29, (Go.Op.load 31 (Go.Operand.tmp 28)), 31, some (20, true)⟩,
    .one ⟨false, some 30, (Go.Op.call { callee := (Go.Callee.value (Go.Operand.func 107)), args := #[(Go.Operand.tmp 24), (Go.Operand.tmp 29)], argTypes := #[31, 31] }), 4, some (20, true)⟩,
    .one ⟨true, some 31, (Go.Op.unOp Go.UnOp.not 4 (Go.Operand.tmp 30)), 4, some (20, true)⟩,
    .one ⟨true, some 32, (Go.Op.pick (Go.Operand.tmp 20) (Go.Operand.tmp 31) (Go.Operand.const (Go.Value.bool false))), 4, none⟩]
              (fun w => Sat w0 w (rowA .u32 31 A0 c0 n0 l1 :: R)) rfl (by kernel_rfl) (by kernel_rfl) (S.drew.mask [true]) ?_
            have S := S.drew
            refine sl_run orc_ok 4 rfl fr fun a fr => ?_
            refine sl_split 20 fr rfl h (fun fr h => ?_) (fun fr h => ?_)
            · refine sl_run orc_ok 2 rfl fr fun a fr => ?_
              obtain ⟨hc, h⟩ := ifs h
              refine sl_ld orc_ok (fun _ S => Sat.rowAt S 0 rfl) fr rfl rfl rfl rfl rfl rfl rfl rfl rfl rfl rfl rfl rfl rfl rfl rfl (Sat.rowLen S 0 rfl) rfl (Sat.rowHb S 0 rfl hc) (Sat.mask S [true]) fun a fr => ?_
              refine sl_run orc_ok 3 rfl fr fun a fr => ?_
              obtain ⟨hc, h⟩ := ifs h
              refine sl_ld orc_ok (fun _ S => Sat.rowAt S 0 rfl) fr rfl rfl rfl rfl rfl rfl rfl rfl rfl rfl rfl rfl rfl rfl rfl rfl (Sat.rowLen S 0 rfl) rfl (Sat.rowHb S 0 rfl hc) (Sat.mask S [true]) fun a fr => ?_
              obtain ⟨r23, hr, h⟩ := bnd h
              refine sl_call fr rfl rfl rfl rfl rfl en107 (Less_uint32.walk (List.getD l1 (Int.toNat x21) 0) (List.getD l1 (Int.toNat (IntKind.wrap .i64 (x21 - (1 : Int)))) 0) (fr.int (d := 24) rfl) (fr.int (d := 29) rfl) S hr) ?_
              rintro _ w ⟨rfl, hv, S⟩
              refine ⟨_, rfl, hv, (Sat.mask S [true]), fun a fr => ?_⟩
              refine sl_run orc_ok 2 rfl fr fun a fr => ?_
              refine sl_end ?_
              refine then_n ?_
              refine cw_if fr rfl h (fun h => ?_) (fun h => ?_)
              · refine wp_skip ?_
                refine then_n ?_
                refine wp_block ?_
                refine wp_region_lit ?_
                refine wl_run orc_ok 3 rfl fr fun a fr => ?_
                refine wpList_nil ?_
                refine blk_n ?_
                exact ⟨(IntKind.wrap .i64 (x21 + (1 : Int))), fr.sub ⟨rfl, rfl, rfl, rfl, rfl, trivial⟩, S, h⟩
              · refine wp_exit ?_
                refine then_e ?_
                refine then_e ?_
                refine blk_y ?_
                exact ⟨k4, x21, fr.sub ⟨rfl, rfl, rfl, rfl, rfl, trivial⟩, S, h⟩
            · refine sl_run orc_ok 9 rfl fr fun a fr => ?_
              refine sl_no fr rfl (Sat.mask S [true]) rfl rfl fun a fr => ?_
              refine sl_run orc_ok 2 rfl fr fun a fr => ?_
              refine sl_end ?_
              refine then_n ?_
              refine cw_f fr rfl ?_
              refine wp_exit ?_
              refine then_e ?_
              refine then_e ?_
              refine blk_y ?_
              exact ⟨k4, x21, fr.sub ⟨rfl, rfl, rfl, rfl, rfl, trivial⟩, S, h⟩
        · rintro a w ⟨kj2, x9, fr, S, h⟩
          rw [partialInsertionSortOrdered_uint32.j2] at h
          refine wp_seq ?_
          refine wp_seq ?_
          refine wp_region_lit ?_
          refine wl_run orc_ok 3 rfl fr fun a fr => ?_
          refine wpList_nil ?_
          refine then_n ?_
          refine cw_if fr rfl h (fun h => ?_) (fun h => ?_)
          · refine wp_seq ?_
            refine wp_region_lit ?_
            refine wl_run orc_ok 1 rfl fr fun a fr => ?_
            refine wpList_nil ?_
            refine then_n ?_
            refine wp_ret ?_
            refine then_r ?_
            refine blk_r ?_
            refine then_r ?_
            refine then_r ?_
            refine blk_r ?_
            refine then_r ?_
            injection h with h
            subst h
            refine ret1 fr rfl rfl ?_
            exact ⟨rfl, fr.vok (d := 6) rfl, S.mask [true]⟩
          · refine wp_skip ?_
            refine then_n ?_
            refine wp_seq ?_
            refine wp_seq ?_
            refine wp_region_lit ?_
            refine wl_run orc_ok 4 rfl fr fun a fr => ?_
            refine wpList_nil ?_
            refine then_n ?_
            refine cw_if fr rfl h (fun h => ?_) (fun h => ?_)
            · refine wp_seq ?_
              refine wp_region_lit ?_
              refine wl_run orc_ok 1 rfl fr fun a fr => ?_
              refine wpList_nil ?_
              refine then_n ?_
              refine wp_ret ?_
              refine then_r ?_
              refine blk_r ?_
              refine then_r ?_
              refine then_r ?_
              refine blk_r ?_
              refine then_r ?_
              injection h with h
              subst h
              refine ret1 fr rfl rfl ?_
              exact ⟨rfl, fr.vok (d := 6) rfl, S.mask [true]⟩
            · refine wp_skip ?_
              refine then_n ?_
              refine wp_seq ?_
              refine wp_region_ph [2, 3, 4] [14, 15, 16, 17] [.one (2, true, some 44), .one (3, true, some 45), .one (4, true, some 46)] [.one ⟨true, some 44, (Go.Op.move (Go.Operand.tmp 0)), 72, none⟩,
    .one ⟨true, some 45, (Go.Op.move (Go.Operand.tmp 7)), 3, none⟩,
    .one ⟨true, some 46, (Go.Op.binOp Go.BinOp.sub 3 (Go.Operand.tmp 45) (Go.Operand.const (Go.Value.int Go.IntKind.i64 1)) 3), 3, none⟩] [.one (0, true, some 42), .one (1, true, some 43), .one (5, true, some 47), .one (6, true, some 48), .one (7, true, some 49), .one (8, true, some 50), .one (9, true, some 51), .one (10, true, some 52), .one (11, true, some 53), .one (12, true, some 54), .one (13, true, some 55)]
                [.one ⟨true, some 42, (Go.Op.move (Go.Operand.tmp 0)), 72, none⟩,
    .one ⟨true, some 43, (Go.Op.move (Go.Operand.tmp 7)), 3, none⟩,
    .one ⟨true, some 47, (Go.Op.move (Go.Operand.tmp 0)), 72, none⟩,
    .one ⟨true, some 48, (Go.Op.move (Go.Operand.tmp 7)), 3, none⟩,
    .one ⟨true, some 49, (Go.Op.binOp Go.BinOp.sub 3 (Go.Operand.tmp 48) (Go.Operand.const (Go.Value.int Go.IntKind.i64 1)) 3), 3, none⟩,
    .one ⟨true, some 50, (Go.Op.indexAddr 72 (Go.Operand.tmp 47) (Go.Operand.tmp 49)), 0, none⟩,
    .one ⟨true, some 51, (Go.Op.load 31 (Go.Operand.tmp 50)), 31, none⟩,
    .one ⟨true, some 52, (Go.Op.move (Go.Operand.tmp 0)), 72, none⟩,
    .one ⟨true, some 53, (Go.Op.move (Go.Operand.tmp 7)), 3, none⟩,
    .one ⟨true, some 54, (Go.Op.indexAddr 72 (Go.Operand.tmp 52) (Go.Operand.tmp 53)), 0, none⟩,
    .one ⟨true, some 55, (Go.Op.load 31 (Go.Operand.tmp 54)), 31, none⟩]
                [.one (14, true, some 56), .one (15, false, none), .one (16, true, some 57), .one (17, false, none)]
                [.one ⟨true, some 56, (Go.Op.indexAddr 72 (Go.Operand.tmp 42) (Go.Operand.tmp 43)), 0, none⟩,
    .one ⟨false, none, (Go.Op.store 31 (Go.Operand.tmp 56) (Go.Operand.tmp 51)), 0, none⟩,
    .one ⟨true, some 57, (Go.Op.indexAddr 72 (Go.Operand.tmp 44) (Go.Operand.tmp 46)), 0, none⟩,
    .one ⟨false, none, (Go.Op.store 31 (Go.Operand.tmp 57) (Go.Operand.tmp 55)), 0, none⟩]
                (fun w => Sat w0 w (rowA .u32 31 A0 c0 n0 l1 :: R)) (fun w => Sat w0 w (R)) rfl (by kernel_rfl) (by kernel_rfl) (by kernel_rfl) (by kernel_rfl) (S.drew.mask [true]) (fun _ S => S.mask [false]) ?_
              have S := S.drew
              refine sl_run orc_ok 3 rfl fr fun a fr => ?_
              refine sl_next ?_
              refine sl_run orc_ok 5 rfl fr fun a fr => ?_
              obtain ⟨hc, h⟩ := ifs h
              refine sl_ld orc_ok (fun _ S => Sat.rowAt S 0 rfl) fr rfl rfl rfl rfl rfl rfl rfl rfl rfl rfl rfl rfl rfl rfl rfl rfl (Sat.rowLen S 0 rfl) rfl (Sat.rowHb S 0 rfl hc) (Sat.mask S [true]) fun a fr => ?_
              refine sl_run orc_ok 2 rfl fr fun a fr => ?_
              obtain ⟨hc, h⟩ := ifs h
              refine sl_ld orc_ok (fun _ S => Sat.rowAt S 0 rfl) fr rfl rfl rfl rfl rfl rfl rfl rfl rfl rfl rfl rfl rfl rfl rfl rfl (Sat.rowLen S 0 rfl) rfl (Sat.rowHb S 0 rfl hc) (Sat.mask S [true]) fun a fr => ?_
              refine sl_next ?_
              obtain ⟨hc, h⟩ := ifs h
              have hp56 := hc
              refine sl_pe orc_ok (Sat.rowAt S 0 rfl) fr rfl rfl rfl rfl rfl rfl rfl rfl rfl (Sat.rowLen S 0 rfl) (Sat.rowHb S 0 rfl hc) fun a fr => ?_
              refine sl_str orc_ok fr rfl rfl rfl rfl rfl rfl rfl S hp56 ?_
              intro w S
              refine ⟨(Sat.mask S [false]), ?_⟩
              obtain ⟨hc, h⟩ := ifs h
              have hp57 := hc
              refine sl_pe orc_ok (Sat.rowAt S 0 rfl) fr rfl rfl rfl rfl rfl rfl rfl rfl rfl (Sat.rowLen S 0 rfl) (Sat.rowHb S 0 rfl hc) fun a fr => ?_
              refine sl_str orc_ok fr rfl rfl rfl rfl rfl rfl rfl S hp57 ?_
              intro w S
              refine ⟨(Sat.mask S [false]), ?_⟩
              refine sl_end ?_
              refine then_n ?_
              refine cw_cut (fun a w => ∃ kj3 : Nat, ∃ l10 : List Int, Fr 133 a [(0, (.slice A0 n0 c0)), (1, (.int .i64 a1)), (2, (.int .i64 a2)), (7, (.int .i64 x9)), (8, (.int .i64 x3))] ∧ Sat w0 w (rowA .u32 31 A0 c0 n0 l10 :: R) ∧ (partialInsertionSortOrdered_uint32.j3 kj3 (partialInsertionSortOrdered_uint32.l1 k1 a2 n0 a1) a2 x9 n0 x3 l10) = some r) ?_ ?_
              · refine wp_seq ?_
                refine wp_region_lit ?_
                refine wl_run orc_ok 4 rfl fr fun a fr => ?_
                refine wpList_nil ?_
                refine then_n ?_
                refine cw_if fr rfl h (fun h => ?_) (fun h => ?_)
                · refine wp_seq ?_
                  refine wp_region_lit ?_
                  refine wl_run orc_ok 3 rfl fr fun a fr => ?_
                  refine wpList_nil ?_
                  refine then_n ?_
                  refine wp_block ?_
                  refine cw_loop (fun k3 a w => ∃ l16 : List Int, ∃ x17 : Int, Fr 133 a [(0, (.slice A0 n0 c0)), (1, (.int .i64 a1)), (2, (.int .i64 a2)), (7, (.int .i64 x9)), (8, (.int .i64 x3)), (9, (.int .i64 x17))] ∧ Sat w0 w (rowA .u32 31 A0 c0 n0 l16 :: R) ∧ (partialInsertionSortOrdered_uint32.l3 k3 (partialInsertionSortOrdered_uint32.l1 k1 a2 n0 a1) n0 a2 x9 x3 l16 x17) = some r) kj2 ⟨(List.set (List.set l1 (Int.toNat x9) (List.getD l1 (Int.toNat (IntKind.wrap .i64 (x9 - (1 : Int)))) 0)) (Int.toNat (IntKind.wrap .i64 (x9 - (1 : Int)))) (List.getD l1 (Int.toNat x9) 0)), (IntKind.wrap .i64 (x9 - (1 : Int))), fr.sub ⟨rfl, rfl, rfl, rfl, rfl, rfl, trivial⟩, S, h⟩ ?_ ?_
                  · rintro a w ⟨l16, x17, -, -, h⟩
                    simp only [partialInsertionSortOrdered_uint32.l3] at h
                    cases h
                  · rintro k3 a w ⟨l16, x17, fr, S, h⟩
                    rw [partialInsertionSortOrdered_uint32.l3] at h
                    refine wp_seq ?_
                    refine wp_seq ?_
                    refine wp_region_lit ?_
                    refine wl_run orc_ok 2 rfl fr fun a fr => ?_
                    refine wpList_nil ?_
                    refine then_n ?_
                    refine cw_if fr rfl h (fun h => ?_) (fun h => ?_)
                    · refine wp_skip ?_
                      refine then_n ?_
                      refine wp_seq ?_
                      refine wp_block ?_
                      refine wp_seq ?_
                      refine wp_seq ?_
                      refine wp_region_sl [.one (0, true, some 68), .one (1, true, some 69), .one (2, true, some 70), .one (3, true, some 71), .one (4, true, some 72), .one (5, true, some 73), .one (6, true, some 74), .one (7, true, some 75), .one (8, true, some 76), .one (9, false, some 77), .one (10, true, some 78)]
                        [.one ⟨true, some 68, (Go.Op.move (Go.Operand.tmp 0)), 72, none⟩,
    .one ⟨true, some 69, (Go.Op.move (Go.Operand.tmp 9)), 3, none⟩,
    .one ⟨true, some 70, (Go.Op.indexAddr 72 (Go.Operand.tmp 68) (Go.Operand.tmp 69)), 0, none⟩,
    .one ⟨true, some 71, (Go.Op.load 31 (Go.Operand.tmp 70)), 31, none⟩,
    .one ⟨true, some 72, (Go.Op.move (Go.Operand.tmp 0)), 72, none⟩,
    .one ⟨true, some 73, (Go.Op.move (Go.Operand.tmp 9)), 3, none⟩,
    .one ⟨true, some 74, (Go.Op.binOp Go.BinOp.sub 3 (Go.Operand.tmp 73) (Go.Operand.const (Go.Value.int Go.IntKind.i64 1)) 3), 3, none⟩,
    .one ⟨true, some 75, (Go.Op.indexAddr 72 (Go.Operand.tmp 72) (Go.Operand.tmp 74)), 0, none⟩,
    .one ⟨true, some 76, (Go.Op.load 31 (Go.Operand.tmp 75)), 31, none⟩,
    .one ⟨false, some 77, (Go.Op.call { callee := (Go.Callee.value (Go.Operand.func 107)), args := #[(Go.Operand.tmp 71), (Go.Operand.tmp 76)], argTypes := #[31, 31] }), 4, none⟩,
    .one ⟨true, some 78, (Go.Op.unOp Go.UnOp.not 4 (Go.Operand.tmp 77)), 4, none⟩]
                        (fun w => Sat w0 w (rowA .u32 31 A0 c0 n0 l16 :: R)) rfl (by kernel_rfl) (by kernel_rfl) (S.drew.mask [true]) ?_
                      have S := S.drew
                      refine sl_run orc_ok 2 rfl fr fun a fr => ?_
                      obtain ⟨hc, h⟩ := ifs h
                      refine sl_ld orc_ok (fun _ S => Sat.rowAt S 0 rfl) fr rfl rfl rfl rfl rfl rfl rfl rfl rfl rfl rfl rfl rfl rfl rfl rfl (Sat.rowLen S 0 rfl) rfl (Sat.rowHb S 0 rfl hc) (Sat.mask S [true]) fun a fr => ?_
                      refine sl_run orc_ok 3 rfl fr fun a fr => ?_
                      obtain ⟨hc, h⟩ := ifs h
                      refine sl_ld orc_ok (fun _ S => Sat.rowAt S 0 rfl) fr rfl rfl rfl rfl rfl rfl rfl rfl rfl rfl rfl rfl rfl rfl rfl rfl (Sat.rowLen S 0 rfl) rfl (Sat.rowHb S 0 rfl hc) (Sat.mask S [true]) fun a fr => ?_
                      obtain ⟨r20, hr, h⟩ := bnd h
                      refine sl_call fr rfl rfl rfl rfl rfl en107 (Less_uint32.walk (List.getD l16 (Int.toNat x17) 0) (List.getD l16 (Int.toNat (IntKind.wrap .i64 (x17 - (1 : Int)))) 0) (fr.int (d := 71) rfl) (fr.int (d := 76) rfl) S hr) ?_
                      rintro _ w ⟨rfl, hv, S⟩
                      refine ⟨_, rfl, hv, (Sat.mask S [true]), fun a fr => ?_⟩
                      refine sl_run orc_ok 1 rfl fr fun a fr => ?_
                      refine sl_end ?_
                      refine then_n ?_
                      refine cw_if fr rfl h (fun h => ?_) (fun h => ?_)
                      · refine wp_exit ?_
                        refine then_e ?_
                        refine blk_e rfl ?_
                        refine then_e ?_
                        refine then_e ?_
                        refine blk_y ?_
                        exact ⟨k3, l16, fr.sub ⟨rfl, rfl, rfl, rfl, rfl, trivial⟩, S, h⟩
                      · refine wp_skip ?_
                        refine then_n ?_
                        refine wp_region_ph [2, 3, 4] [14, 15, 16, 17] [.one (2, true, some 81), .one (3, true, some 82), .one (4, true, some 83)] [.one ⟨true, some 81, (Go.Op.move (Go.Operand.tmp 0)), 72, none⟩,
    .one ⟨true, some 82, (Go.Op.move (Go.Operand.tmp 9)), 3, none⟩,
    .one ⟨true, some 83, (Go.Op.binOp Go.BinOp.sub 3 (Go.Operand.tmp 82) (Go.Operand.const (Go.Value.int Go.IntKind.i64 1)) 3), 3, none⟩] [.one (0, true, some 79), .one (1, true, some 80), .one (5, true, some 84), .one (6, true, some 85), .one (7, true, some 86), .one (8, true, some 87), .one (9, true, some 88), .one (10, true, some 89), .one (11, true, some 90), .one (12, true, some 91), .one (13, true, some 92)]
                          [.one ⟨true, some 79, (Go.Op.move (Go.Operand.tmp 0)), 72, none⟩,
    .one ⟨true, some 80, (Go.Op.move (Go.Operand.tmp 9)), 3, none⟩,
    .one ⟨true, some 84, (Go.Op.move (Go.Operand.tmp 0)), 72, none⟩,
    .one ⟨true, some 85, (Go.Op.move (Go.Operand.tmp 9)), 3, none⟩,
    .one ⟨true, some 86, (Go.Op.binOp Go.BinOp.sub 3 (Go.Operand.tmp 85) (Go.Operand.const (Go.Value.int Go.IntKind.i64 1)) 3), 3, none⟩,
    .one ⟨true, some 87, (Go.Op.indexAddr 72 (Go.Operand.tmp 84) (Go.Operand.tmp 86)), 0, none⟩,
    .one ⟨true, some 88, (Go.Op.load 31 (Go.Operand.tmp 87)), 31, none⟩,
    .one ⟨true, some 89, (Go.Op.move (Go.Operand.tmp 0)), 72, none⟩,
    .one ⟨true, some 90, (Go.Op.move (Go.Operand.tmp 9)), 3, none⟩,
    .one ⟨true, some 91, (Go.Op.indexAddr 72 (Go.Operand.tmp 89) (Go.Operand.tmp 90)), 0, none⟩,
    .one ⟨true, some 92, (Go.Op.load 31 (Go.Operand.tmp 91)), 31, none⟩]
                          [.one (14, true, some 93), .one (15, false, none), .one (16, true, some 94), .one (17, false, none)]
                          [.one ⟨true, some 93, (Go.Op.indexAddr 72 (Go.Operand.tmp 79) (Go.Operand.tmp 80)), 0, none⟩,
    .one ⟨false, none, (Go.Op.store 31 (Go.Operand.tmp 93) (Go.Operand.tmp 88)), 0, none⟩,
    .one ⟨true, some 94, (Go.Op.indexAddr 72 (Go.Operand.tmp 81) (Go.Operand.tmp 83)), 0, none⟩,
    .one ⟨false, none, (Go.Op.store 31 (Go.Operand.tmp 94) (Go.Operand.tmp 92)), 0, none⟩]
                          (fun w => Sat w0 w (rowA .u32 31 A0 c0 n0 l16 :: R)) (fun w => Sat w0 w (R)) rfl (by kernel_rfl) (by kernel_rfl) (by kernel_rfl) (by kernel_rfl) (S.drew.mask [true]) (fun _ S => S.mask [false]) ?_
                        have S := S.drew
                        refine sl_run orc_ok 3 rfl fr fun a fr => ?_
                        refine sl_next ?_
                        refine sl_run orc_ok 5 rfl fr fun a fr => ?_
                        obtain ⟨hc, h⟩ := ifs h
                        refine sl_ld orc_ok (fun _ S => Sat.rowAt S 0 rfl) fr rfl rfl rfl rfl rfl rfl rfl rfl rfl rfl rfl rfl rfl rfl rfl rfl (Sat.rowLen S 0 rfl) rfl (Sat.rowHb S 0 rfl hc) (Sat.mask S [true]) fun a fr => ?_
                        refine sl_run orc_ok 2 rfl fr fun a fr => ?_
                        obtain ⟨hc, h⟩ := ifs h
                        refine sl_ld orc_ok (fun _ S => Sat.rowAt S 0 rfl) fr rfl rfl rfl rfl rfl rfl rfl rfl rfl rfl rfl rfl rfl rfl rfl rfl (Sat.rowLen S 0 rfl) rfl (Sat.rowHb S 0 rfl hc) (Sat.mask S [true]) fun a fr => ?_
                        refine sl_next ?_
                        obtain ⟨hc, h⟩ := ifs h
                        have hp93 := hc
                        refine sl_pe orc_ok (Sat.rowAt S 0 rfl) fr rfl rfl rfl rfl rfl rfl rfl rfl rfl (Sat.rowLen S 0 rfl) (Sat.rowHb S 0 rfl hc) fun a fr => ?_
                        refine sl_str orc_ok fr rfl rfl rfl rfl rfl rfl rfl S hp93 ?_
                        intro w S
                        refine ⟨(Sat.mask S [false]), ?_⟩
                        obtain ⟨hc, h⟩ := ifs h
                        have hp94 := hc
                        refine sl_pe orc_ok (Sat.rowAt S 0 rfl) fr rfl rfl rfl rfl rfl rfl rfl rfl rfl (Sat.rowLen S 0 rfl) (Sat.rowHb S 0 rfl hc) fun a fr => ?_
                        refine sl_str orc_ok fr rfl rfl rfl rfl rfl rfl rfl S hp94 ?_
                        intro w S
                        refine ⟨(Sat.mask S [false]), ?_⟩
                        refine sl_end ?_
                        refine blk_n ?_
                        refine then_n ?_
                        refine wp_region_lit ?_
                        refine wl_run orc_ok 3 rfl fr fun a fr => ?_
                        refine wpList_nil ?_
                        exact ⟨(List.set (List.set l16 (Int.toNat x17) (List.getD l16 (Int.toNat (IntKind.wrap .i64 (x17 - (1 : Int)))) 0)) (Int.toNat (IntKind.wrap .i64 (x17 - (1 : Int)))) (List.getD l16 (Int.toNat x17) 0)), (IntKind.wrap .i64 (x17 - (1 : Int))), fr.sub ⟨rfl, rfl, rfl, rfl, rfl, rfl, trivial⟩, S, h⟩
                    · refine wp_exit ?_
                      refine then_e ?_
                      refine then_e ?_
                      refine blk_y ?_
                      exact ⟨k3, l16, fr.sub ⟨rfl, rfl, rfl, rfl, rfl, trivial⟩, S, h⟩
                · refine wp_skip ?_
                  exact ⟨kj2, (List.set (List.set l1 (Int.toNat x9) (List.getD l1 (Int.toNat (IntKind.wrap .i64 (x9 - (1 : Int)))) 0)) (Int.toNat (IntKind.wrap .i64 (x9 - (1 : Int)))) (List.getD l1 (Int.toNat x9) 0)), fr.sub ⟨rfl, rfl, rfl, rfl, rfl, trivial⟩, S, h⟩
              · rintro a w ⟨kj3, l10, fr, S, h⟩
                rw [partialInsertionSortOrdered_uint32.j3] at h
                refine wp_seq ?_
                refine wp_region_lit ?_
                refine wl_run orc_ok 4 rfl fr fun a fr => ?_
                refine wpList_nil ?_
                refine then_n ?_
                refine cw_if fr rfl h (fun h => ?_) (fun h => ?_)
                · refine wp_seq ?_
                  refine wp_region_lit ?_
                  refine wl_run orc_ok 3 rfl fr fun a fr => ?_
                  refine wpList_nil ?_
                  refine then_n ?_
                  refine wp_block ?_
                  refine cw_loop (fun k2 a w => ∃ l11 : List Int, ∃ x12 : Int, Fr 133 a [(0, (.slice A0 n0 c0)), (1, (.int .i64 a1)), (2, (.int .i64 a2)), (7, (.int .i64 x9)), (8, (.int .i64 x3)), (10, (.int .i64 x12))] ∧ Sat w0 w (rowA .u32 31 A0 c0 n0 l11 :: R) ∧ (partialInsertionSortOrdered_uint32.l2 k2 (partialInsertionSortOrdered_uint32.l1 k1 a2 n0 a1) a2 n0 x3 x9 l11 x12) = some r) kj3 ⟨l10, (IntKind.wrap .i64 (x9 + (1 : Int))), fr.sub ⟨rfl, rfl, rfl, rfl, rfl, rfl, trivial⟩, S, h⟩ ?_ ?_
                  · rintro a w ⟨l11, x12, -, -, h⟩
                    simp only [partialInsertionSortOrdered_uint32.l2] at h
                    cases h
                  · rintro k2 a w ⟨l11, x12, fr, S, h⟩
                    rw [partialInsertionSortOrdered_uint32.l2] at h
                    refine wp_seq ?_
                    refine wp_seq ?_
                    refine wp_region_lit ?_
                    refine wl_run orc_ok 3 rfl fr fun a fr => ?_
                    refine wpList_nil ?_
                    refine then_n ?_
                    refine cw_if fr rfl h (fun h => ?_) (fun h => ?_)
                    · refine wp_skip ?_
                      refine then_n ?_
                      refine wp_seq ?_
                      refine wp_block ?_
                      refine wp_seq ?_
                      refine wp_seq ?_
                      refine wp_region_sl [.one (0, true, some 106), .one (1, true, some 107), .one (2, true, some 108), .one (3, true, some 109), .one (4, true, some 110), .one (5, true, some 111), .one (6, true, some 112), .one (7, true, some 113), .one (8, true, some 114), .one (9, false, some 115), .one (10, true, some 116)]
                        [.one ⟨true, some 106, (Go.Op.move (Go.Operand.tmp 0)), 72, none⟩,
    .one ⟨true, some 107, (Go.Op.move (Go.Operand.tmp 10)), 3, none⟩,
    .one ⟨true, some 108, (Go.Op.indexAddr 72 (Go.Operand.tmp 106) (Go.Operand.tmp 107)), 0, none⟩,
    .one ⟨true, some 109, (Go.Op.load 31 (Go.Operand.tmp 108)), 31, none⟩,
    .one ⟨true, some 110, (Go.Op.move (Go.Operand.tmp 0)), 72, none⟩,
    .one ⟨true, some 111, (Go.Op.move (Go.Operand.tmp 10)), 3, none⟩,
    .one ⟨true, some 112, (Go.Op.binOp Go.BinOp.sub 3 (Go.Operand.tmp 111) (Go.Operand.const (Go.Value.int Go.IntKind.i64 1)) 3), 3, none⟩,
    .one ⟨true, some 113, (Go.Op.indexAddr 72 (Go.Operand.tmp 110) (Go.Operand.tmp 112)), 0, none⟩,
    .one ⟨true, some 114, (Go.Op.load 31 (Go.Operand.tmp 113)), 31, none⟩,
    .one ⟨false, some 115, (Go.Op.call { callee := (Go.Callee.value (Go.Operand.func 107)), args := #[(Go.Operand.tmp 109), (Go.Operand.tmp 114)], argTypes := #[31, 31] }), 4, none⟩,
    .one ⟨true, some 116, (Go.Op.unOp Go.UnOp.not 4 (Go.Operand.tmp 115)), 4, none⟩]
                        (fun w => Sat w0 w (rowA .u32 31 A0 c0 n0 l11 :: R)) rfl (by kernel_rfl) (by kernel_rfl) (S.drew.mask [true]) ?_
                      have S := S.drew
                      refine sl_run orc_ok 2 rfl fr fun a fr => ?_
                      obtain ⟨hc, h⟩ := ifs h
                      refine sl_ld orc_ok (fun _ S => Sat.rowAt S 0 rfl) fr rfl rfl rfl rfl rfl rfl rfl rfl rfl rfl rfl rfl rfl rfl rfl rfl (Sat.rowLen S 0 rfl) rfl (Sat.rowHb S 0 rfl hc) (Sat.mask S [true]) fun a fr => ?_
                      refine sl_run orc_ok 3 rfl fr fun a fr => ?_
                      obtain ⟨hc, h⟩ := ifs h
                      refine sl_ld orc_ok (fun _ S => Sat.rowAt S 0 rfl) fr rfl rfl rfl rfl rfl rfl rfl rfl rfl rfl rfl rfl rfl rfl rfl rfl (Sat.rowLen S 0 rfl) rfl (Sat.rowHb S 0 rfl hc) (Sat.mask S [true]) fun a fr => ?_
                      obtain ⟨r15, hr, h⟩ := bnd h
                      refine sl_call fr rfl rfl rfl rfl rfl en107 (Less_uint32.walk (List.getD l11 (Int.toNat x12) 0) (List.getD l11 (Int.toNat (IntKind.wrap .i64 (x12 - (1 : Int)))) 0) (fr.int (d := 109) rfl) (fr.int (d := 114) rfl) S hr) ?_
                      rintro _ w ⟨rfl, hv, S⟩
                      refine ⟨_, rfl, hv, (Sat.mask S [true]), fun a fr => ?_⟩
                      refine sl_run orc_ok 1 rfl fr fun a fr => ?_
                      refine sl_end ?_
                      refine then_n ?_
                      refine cw_if fr rfl h (fun h => ?_) (fun h => ?_)
                      · refine wp_exit ?_
                        refine then_e ?_
                        refine blk_e rfl ?_
                        refine then_e ?_
                        refine then_e ?_
                        refine blk_y ?_
                        refine blk_n ?_
                        exact ⟨l11, x9, fr.sub ⟨rfl, rfl, rfl, rfl, rfl, trivial⟩, S, h⟩
                      · refine wp_skip ?_
                        refine then_n ?_
                        refine wp_region_ph [2, 3, 4] [14, 15, 16, 17] [.one (2, true, some 119), .one (3, true, some 120), .one (4, true, some 121)] [.one ⟨true, some 119, (Go.Op.move (Go.Operand.tmp 0)), 72, none⟩,
    .one ⟨true, some 120, (Go.Op.move (Go.Operand.tmp 10)), 3, none⟩,
    .one ⟨true, some 121, (Go.Op.binOp Go.BinOp.sub 3 (Go.Operand.tmp 120) (Go.Operand.const (Go.Value.int Go.IntKind.i64 1)) 3), 3, none⟩] [.one (0, true, some 117), .one (1, true, some 118), .one (5, true, some 122), .one (6, true, some 123), .one (7, true, some 124), .one (8, true, some 125), .one (9, true, some 126), .one (10, true, some 127), .one (11, true, some 128), .one (12, true, some 129), .one (13, true, some 130)]
                          [.one ⟨true, some 117, (Go.Op.move (Go.Operand.tmp 0)), 72, none⟩,
    .one ⟨true, some 118, (Go.Op.move (Go.Operand.tmp 10)), 3, none⟩,
    .one ⟨true, some 122, (Go.Op.move (Go.Operand.tmp 0)), 72, none⟩,
    .one ⟨true, some 123, (Go.Op.move (Go.Operand.tmp 10)), 3, none⟩,
    .one ⟨true, some 124, (Go.Op.binOp Go.BinOp.sub 3 (Go.Operand.tmp 123) (Go.Operand.const (Go.Value.int Go.IntKind.i64 1)) 3), 3, none⟩,
    .one ⟨true, some 125, (Go.Op.indexAddr 72 (Go.Operand.tmp 122) (Go.Operand.tmp 124)), 0, none⟩,
    .one ⟨true, some 126, (Go.Op.load 31 (Go.Operand.tmp 125)), 31, none⟩,
    .one ⟨true, some 127, (Go.Op.move (Go.Operand.tmp 0)), 72, none⟩,
    .one ⟨true, some 128, (Go.Op.move (Go.Operand.tmp 10)), 3, none⟩,
    .one ⟨true, some 129, (Go.Op.indexAddr 72 (Go.Operand.tmp 127) (Go.Operand.tmp 128)), 0, none⟩,
    .one ⟨true, some 130, (Go.Op.load 31 (Go.Operand.tmp 129)), 31, none⟩]
                          [.one (14, true, some 131), .one (15, false, none), .one (16, true, some 132), .one (17, false, none)]
                          [.one ⟨true, some 131, (Go.Op.indexAddr 72 (Go.Operand.tmp 117) (Go.Operand.tmp 118)), 0, none⟩,
    .one ⟨false, none, (Go.Op.store 31 (Go.Operand.tmp 131) (Go.Operand.tmp 126)), 0, none⟩,
    .one ⟨true, some 132, (Go.Op.indexAddr 72 (Go.Operand.tmp 119) (Go.Operand.tmp 121)), 0, none⟩,
    .one ⟨false, none, (Go.Op.store 31 (Go.Operand.tmp 132) (Go.Operand.tmp 130)), 0, none⟩]
                          (fun w => Sat w0 w (rowA .u32 31 A0 c0 n0 l11 :: R)) (fun w => Sat w0 w (R)) rfl (by kernel_rfl) (by kernel_rfl) (by kernel_rfl) (by kernel_rfl) (S.drew.mask [true]) (fun _ S => S.mask [false]) ?_
                        have S := S.drew
                        refine sl_run orc_ok 3 rfl fr fun a fr => ?_
                        refine sl_next ?_
                        refine sl_run orc_ok 5 rfl fr fun a fr => ?_
                        obtain ⟨hc, h⟩ := ifs h
                        refine sl_ld orc_ok (fun _ S => Sat.rowAt S 0 rfl) fr rfl rfl rfl rfl rfl rfl rfl rfl rfl rfl rfl rfl rfl rfl rfl rfl (Sat.rowLen S 0 rfl) rfl (Sat.rowHb S 0 rfl hc) (Sat.mask S [true]) fun a fr => ?_
                        refine sl_run orc_ok 2 rfl fr fun a fr => ?_
                        obtain ⟨hc, h⟩ := ifs h
                        refine sl_ld orc_ok (fun _ S => Sat.rowAt S 0 rfl) fr rfl rfl rfl rfl rfl rfl rfl rfl rfl rfl rfl rfl rfl rfl rfl rfl (Sat.rowLen S 0 rfl) rfl (Sat.rowHb S 0 rfl hc) (Sat.mask S [true]) fun a fr => ?_
                        refine sl_next ?_
                        obtain ⟨hc, h⟩ := ifs h
                        have hp131 := hc
                        refine sl_pe orc_ok (Sat.rowAt S 0 rfl) fr rfl rfl rfl rfl rfl rfl rfl rfl rfl (Sat.rowLen S 0 rfl) (Sat.rowHb S 0 rfl hc) fun a fr => ?_
                        refine sl_str orc_ok fr rfl rfl rfl rfl rfl rfl rfl S hp131 ?_
                        intro w S
                        refine ⟨(Sat.mask S [false]), ?_⟩
                        obtain ⟨hc, h⟩ := ifs h
                        have hp132 := hc
                        refine sl_pe orc_ok (Sat.rowAt S 0 rfl) fr rfl rfl rfl rfl rfl rfl rfl rfl rfl (Sat.rowLen S 0 rfl) (Sat.rowHb S 0 rfl hc) fun a fr => ?_
                        refine sl_str orc_ok fr rfl rfl rfl rfl rfl rfl rfl S hp132 ?_
                        intro w S
                        refine ⟨(Sat.mask S [false]), ?_⟩
                        refine sl_end ?_
                        refine blk_n ?_
                        refine then_n ?_
                        refine wp_region_lit ?_
                        refine wl_run orc_ok 3 rfl fr fun a fr => ?_
                        refine wpList_nil ?_
                        exact ⟨(List.set (List.set l11 (Int.toNat x12) (List.getD l11 (Int.toNat (IntKind.wrap .i64 (x12 - (1 : Int)))) 0)) (Int.toNat (IntKind.wrap .i64 (x12 - (1 : Int)))) (List.getD l11 (Int.toNat x12) 0)), (IntKind.wrap .i64 (x12 + (1 : Int))), fr.sub ⟨rfl, rfl, rfl, rfl, rfl, rfl, trivial⟩, S, h⟩
                    · refine wp_exit ?_
                      refine then_e ?_
                      refine then_e ?_
                      refine blk_y ?_
                      refine blk_n ?_
                      exact ⟨l11, x9, fr.sub ⟨rfl, rfl, rfl, rfl, rfl, trivial⟩, S, h⟩
                · refine wp_skip ?_
                  refine blk_n ?_
                  exact ⟨l10, x9, fr.sub ⟨rfl, rfl, rfl, rfl, rfl, trivial⟩, S, h⟩
      · rintro a w ⟨l7, x8, fr, S, h⟩
        rw [partialInsertionSortOrdered_uint32.j1] at h
        refine wp_region_lit ?_
        refine wl_run orc_ok 3 rfl fr fun a fr => ?_
        refine wpList_nil ?_
        exact ⟨l7, x8, (IntKind.wrap .i64 (x3 + (1 : Int))), fr.sub ⟨rfl, rfl, rfl, rfl, rfl, trivial⟩, S, h⟩
    · refine wp_exit ?_
      refine then_e ?_
      refine then_e ?_
      refine blk_y ?_
      refine then_n ?_
      refine wp_seq ?_
      refine wp_region_lit ?_
      refine wl_run orc_ok 1 rfl fr fun a fr => ?_
      refine wpList_nil ?_
      refine then_n ?_
      refine wp_ret ?_
      injection h with h
      subst h
      refine ret1 fr rfl rfl ?_
      exact ⟨rfl, fr.vok (d := 6) rfl, S.mask [true]⟩
set_option maxRecDepth 100000 in
set_option maxHeartbeats 4000000 in
theorem partitionEqualOrdered_uint32.walk (k : Nat) (A0 : Option Addr) (c0 n0 : Nat) (l0 : List Int) (a1 : Int) (a2 : Int) (a3 : Int) {w0 w : World} {R : List Asn} (m0 : n0 ≤ c0 ∧ c0 ≤ maxLen) (v1 : (Lit.int .i64 a1).wf = true) (v2 : (Lit.int .i64 a2).wf = true) (v3 : (Lit.int .i64 a3).wf = true) (S : Sat w0 w (rowA .u32 31 A0 c0 n0 l0 :: R)) {r : Int × List Int} (h : partitionEqualOrdered_uint32.f k n0 l0 a1 a2 a3 = some r) :
    Calls Tryz.prog 108 #[(.slice A0 n0 c0), (.int .i64 a1), (.int .i64 a2), (.int .i64 a3)] w fun e w' => e = .returned (.int .i64 r.1) ∧ vok (.int .i64 r.1) = true ∧ Sat w0 w' (rowA .u32 31 A0 c0 n0 r.2 :: R) := by
  unfold partitionEqualOrdered_uint32.f at h
  refine calls_start (N := 84) [(.slice A0 n0 c0), (.int .i64 a1), (.int .i64 a2), (.int .i64 a3)] Tryz.func108 rfl rfl rfl (vok_c (vok_sl m0) (vok_c v1 (vok_c v2 (vok_c v3 rfl)))) fun a fr => ?_
  refine wp_seq ?_
  refine wp_region_lit ?_
  refine wl_run orc_ok 1 rfl fr fun a fr => ?_
  refine wpList_nil ?_
  refine then_n ?_
  refine wp_seq ?_
  refine wp_region_ph [2, 3] [12, 13, 14, 15] [.one (2, true, some 13), .one (3, true, some 14)] [.one ⟨true, some 13, (Go.Op.move (Go.Operand.tmp 0)), 72, none⟩,
    .one ⟨true, some 14, (Go.Op.move (Go.Operand.tmp 3)), 3, none⟩] [.one (0, true, some 11), .one (1, true, some 12), .one (4, true, some 15), .one (5, true, some 16), .one (6, true, some 17), .one (7, true, some 18), .one (8, true, some 19), .one (9, true, some 20), .one (10, true, some 21), .one (11, true, some 22)]
    [.one ⟨true, some 11, (Go.Op.move (Go.Operand.tmp 0)), 72, none⟩,
    .one ⟨true, some 12, (Go.Op.move (Go.Operand.tmp 1)), 3, none⟩,
    .one ⟨true, some 15, (Go.Op.move (Go.Operand.tmp 0)), 72, none⟩,
    .one ⟨true, some 16, (Go.Op.move (Go.Operand.tmp 3)), 3, none⟩,
    .one ⟨true, some 17, (Go.Op.indexAddr 72 (Go.Operand.tmp 15) (Go.Operand.tmp 16)), 0, none⟩,
    .one ⟨true, some 18, (Go.Op.load 31 (Go.Operand.tmp 17)), 31, none⟩,
    .one ⟨true, some 19, (Go.Op.move (Go.Operand.tmp 0)), 72, none⟩,
    .one ⟨true, some 20, (Go.Op.move (Go.Operand.tmp 1)), 3, none⟩,
    .one ⟨true, some 21, (Go.Op.indexAddr 72 (Go.Operand.tmp 19) (Go.Operand.tmp 20)), 0, none⟩,
    .one ⟨true, some 22, (Go.Op.load 31 (Go.Operand.tmp 21)), 31, none⟩]
    [.one (12, true, some 23), .one (13, false, none), .one (14, true, some 24), .one (15, false, none)]
    [.one ⟨true, some 23, (Go.Op.indexAddr 72 (Go.Operand.tmp 11) (Go.Operand.tmp 12)), 0, none⟩,
    .one ⟨false, none, (Go.Op.store 31 (Go.Operand.tmp 23) (Go.Operand.tmp 18)), 0, none⟩,
    .one ⟨true, some 24, (Go.Op.indexAddr 72 (Go.Operand.tmp 13) (Go.Operand.tmp 14)), 0, none⟩,
    .one ⟨false, none, (Go.Op.store 31 (Go.Operand.tmp 24) (Go.Operand.tmp 22)), 0, none⟩]
    (fun w => Sat w0 w (rowA .u32 31 A0 c0 n0 l0 :: R)) (fun w => Sat w0 w (R)) rfl (by kernel_rfl) (by kernel_rfl) (by kernel_rfl) (by kernel_rfl) (S.drew.mask [true]) (fun _ S => S.mask [false]) ?_
  have S := S.drew
  refine sl_run orc_ok 2 rfl fr fun a fr => ?_
  refine sl_next ?_
  refine sl_run orc_ok 4 rfl fr fun a fr => ?_
  obtain ⟨hc, h⟩ := ifs h
  refine sl_ld orc_ok (fun _ S => Sat.rowAt S 0 rfl) fr rfl rfl rfl rfl rfl rfl rfl rfl rfl rfl rfl rfl rfl rfl rfl rfl (Sat.rowLen S 0 rfl) rfl (Sat.rowHb S 0 rfl hc) (Sat.mask S [true]) fun a fr => ?_
  refine sl_run orc_ok 2 rfl fr fun a fr => ?_
  obtain ⟨hc, h⟩ := ifs h
  refine sl_ld orc_ok (fun _ S => Sat.rowAt S 0 rfl) fr rfl rfl rfl rfl rfl rfl rfl rfl rfl rfl rfl rfl rfl rfl rfl rfl (Sat.rowLen S 0 rfl) rfl (Sat.rowHb S 0 rfl hc) (Sat.mask S [true]) fun a fr => ?_
  refine sl_next ?_
  obtain ⟨hc, h⟩ := ifs h
  have hp23 := hc
  refine sl_pe orc_ok (Sat.rowAt S 0 rfl) fr rfl rfl rfl rfl rfl rfl rfl rfl rfl (Sat.rowLen S 0 rfl) (Sat.rowHb S 0 rfl hc) fun a fr => ?_
  refine sl_str orc_ok fr rfl rfl rfl rfl rfl rfl rfl S hp23 ?_
  intro w S
  refine ⟨(Sat.mask S [false]), ?_⟩
  obtain ⟨hc, h⟩ := ifs h
  have hp24 := hc
  refine sl_pe orc_ok (Sat.rowAt S 0 rfl) fr rfl rfl rfl rfl rfl rfl rfl rfl rfl (Sat.rowLen S 0 rfl) (Sat.rowHb S 0 rfl hc) fun a fr => ?_
  refine sl_str orc_ok fr rfl rfl rfl rfl rfl rfl rfl S hp24 ?_
  intro w S
  refine ⟨(Sat.mask S [false]), ?_⟩
  refine sl_end ?_
  refine then_n ?_
  refine wp_seq ?_
  refine wp_region_lit ?_
  refine wl_run orc_ok 6 rfl fr fun a fr => ?_
  refine wpList_nil ?_
  refine then_n ?_
  refine wp_seq ?_
  refine wp_block ?_
  refine cw_loop (fun k1 a w => ∃ l1 : List Int, ∃ x2 : Int, ∃ x3 : Int, Fr 84 a [(0, (.slice A0 n0 c0)), (1, (.int .i64 a1)), (9, (.int .i64 x2)), (10, (.int .i64 x3))] ∧ Sat w0 w (rowA .u32 31 A0 c0 n0 l1 :: R) ∧ (partitionEqualOrdered_uint32.l1 k1 a1 n0 l1 x2 x3) = some r) k ⟨(List.set (List.set l0 (Int.toNat a1) (List.getD l0 (Int.toNat a3) 0)) (Int.toNat a3) (List.getD l0 (Int.toNat a1) 0)), (IntKind.wrap .i64 (a1 + (1 : Int))), (IntKind.wrap .i64 (a2 - (1 : Int))), fr.sub ⟨rfl, rfl, rfl, rfl, trivial⟩, S, h⟩ ?_ ?_
  · rintro a w ⟨l1, x2, x3, -, -, h⟩
    simp only [partitionEqualOrdered_uint32.l1] at h
    cases h
  · rintro k1 a w ⟨l1, x2, x3, fr, S, h⟩
    rw [partitionEqualOrdered_uint32.l1] at h
    refine wp_block ?_
    refine cw_cut (fun a w => ∃ kj1 : Nat, ∃ x7 : Int, Fr 84 a [(0, (.slice A0 n0 c0)), (1, (.int .i64 a1)), (9, (.int .i64 x7)), (10, (.int .i64 x3))] ∧ Sat w0 w (rowA .u32 31 A0 c0 n0 l1 :: R) ∧ (partitionEqualOrdered_uint32.j1 kj1 (partitionEqualOrdered_uint32.l1 k1 a1 n0) a1 n0 l1 x3 x7) = some r) ?_ ?_
    · refine wp_block ?_
      refine cw_loop (fun k3 a w => ∃ x12 : Int, Fr 84 a [(0, (.slice A0 n0 c0)), (1, (.int .i64 a1)), (9, (.int .i64 x12)), (10, (.int .i64 x3))] ∧ Sat w0 w (rowA .u32 31 A0 c0 n0 l1 :: R) ∧ (partitionEqualOrdered_uint32.l3 k3 (partitionEqualOrdered_uint32.l1 k1 a1 n0) x3 a1 n0 l1 x12) = some r) k1 ⟨x2, fr.sub ⟨rfl, rfl, rfl, rfl, trivial⟩, S, h⟩ ?_ ?_
      · rintro a w ⟨x12, -, -, h⟩
        simp only [partitionEqualOrdered_uint32.l3] at h
        cases h
      · rintro k3 a w ⟨x12, fr, S, h⟩
        rw [partitionEqualOrdered_uint32.l3] at h
        refine wp_seq ?_
        refine wp_seq ?_
        refine wp_region_sl [.one (0, true, some 29), .one (1, true, some 30), .one (2, true, some 31), .one (3, true, some 32), .one (4, true, some 33), .one (5, true, some 34), .one (6, true, some 35), .one (7, true, some 36), .one (8, true, some 37), .one (9, true, some 38), .one (10, true, some 39), .one (11, true, some 40), .one (12, false, some 41), .one (13, true, some 42), .one (14, true, some 43)]
          [.one ⟨true, some 29, (Go.Op.move (Go.Operand.tmp 9)), 3, none⟩,
    .one ⟨true, some 30, (Go.Op.move (Go.Operand.tmp 10)), 3, none⟩,
    .one ⟨true, some 31, (Go.Op.binOp Go.BinOp.leq 3 (Go.Operand.tmp 29) (Go.Operand.tmp 30) 3), 4, none⟩,
    .one ⟨true, some 32, (Go.Op.move (Go.Operand.tmp 31)), 4, none⟩,
    .one ⟨true, some 33, (Go.Op.move (Go.Operand.tmp 0)), 72, some (32, true)⟩,
    .one ⟨true, some 34, (Go.Op.move (Go.Operand.tmp 1)), 3, some (32, true)⟩,
    .one ⟨true, some 35, (Go.Op.indexAddr 72 (Go.Operand.tmp 33) (Go.Operand.tmp 34)), 0, some (32, true)⟩,
    .one ⟨true, some 36, (Go.Op.load 31 (Go.Operand.tmp 35)), 31, some (32, true)⟩,
    .one ⟨true, some 37, (Go.Op.move (Go.Operand.tmp 0)), 72, some (32, true)⟩,
    .one ⟨true, some 38, (Go.Op.move (Go.Operand.tmp 9)), 3, some (32, true)⟩,
    .one ⟨true, some 39, (Go.Op.indexAddr 72 (Go.Operand.tmp 37) (Go.Operand.tmp 38)), 0, some (32, true)⟩,
    .one ⟨true, some 40, (Go.Op.load 31 (Go.Operand.tmp 39)), 31, some (32, true)⟩,
    .one ⟨false, some 41, (Go.Op.call { callee := (Go.Callee.value (Go.Operand.func 107)), args := #[(Go.Operand.tmp 36), (Go.Operand.tmp 40)], argTypes := #[31, 31] }), 4, some (32, true)⟩,
    .one ⟨true, some 42, (Go.Op.unOp Go.UnOp.not 4 (Go.Operand.tmp 41)), 4, some (32, true)⟩,
    .one ⟨true, some 43, (Go.Op.pick (Go.Operand.tmp 32) (Go.Operand.tmp 42) (Go.Operand.const (Go.Value.bool false))), 4, none⟩]
          (fun w => Sat w0 w (rowA .u32 31 A0 c0 n0 l1 :: R)) rfl (by kernel_rfl) (by kernel_rfl) (S.drew.mask [true]) ?_
        have S := S.drew
        refine sl_run orc_ok 4 rfl fr fun a fr => ?_
        refine sl_split 32 fr rfl h (fun fr h => ?_) (fun fr h => ?_)
        · refine sl_run orc_ok 2 rfl fr fun a fr => ?_
          obtain ⟨hc, h⟩ := ifs h
          refine sl_ld orc_ok (fun _ S => Sat.rowAt S 0 rfl) fr rfl rfl rfl rfl rfl rfl rfl rfl rfl rfl rfl rfl rfl rfl rfl rfl (Sat.rowLen S 0 rfl) rfl (Sat.rowHb S 0 rfl hc) (Sat.mask S [true]) fun a fr => ?_
          refine sl_run orc_ok 2 rfl fr fun a fr => ?_
          obtain ⟨hc, h⟩ := ifs h
          refine sl_ld orc_ok (fun _ S => Sat.rowAt S 0 rfl) fr rfl rfl rfl rfl rfl rfl rfl rfl rfl rfl rfl rfl rfl rfl rfl rfl (Sat.rowLen S 0 rfl) rfl (Sat.rowHb S 0 rfl hc) (Sat.mask S [true]) fun a fr => ?_
          obtain ⟨r14, hr, h⟩ := bnd h
          refine sl_call fr rfl rfl rfl rfl rfl en107 (Less_uint32.walk (List.getD l1 (Int.toNat a1) 0) (List.getD l1 (Int.toNat x12) 0) (fr.int (d := 36) rfl) (fr.int (d := 40) rfl) S hr) ?_
          rintro _ w ⟨rfl, hv, S⟩
          refine ⟨_, rfl, hv, (Sat.mask S [true]), fun a fr => ?_⟩
          refine sl_run orc_ok 2 rfl fr fun a fr => ?_
          refine sl_end ?_
          refine then_n ?_
          refine cw_if fr rfl h (fun h => ?_) (fun h => ?_)
          · refine wp_skip ?_
            refine then_n ?_
            refine wp_block ?_
            refine wp_region_lit ?_
            refine wl_run orc_ok 3 rfl fr fun a fr => ?_
            refine wpList_nil ?_
            refine blk_n ?_
            exact ⟨(IntKind.wrap .i64 (x12 + (1 : Int))), fr.sub ⟨rfl, rfl, rfl, rfl, trivial⟩, S, h⟩
          · refine wp_exit ?_
            refine then_e ?_
            refine then_e ?_
            refine blk_y ?_
            exact ⟨k3, x12, fr.sub ⟨rfl, rfl, rfl, rfl, trivial⟩, S, h⟩
        · refine sl_run orc_ok 8 rfl fr fun a fr => ?_
          refine sl_no fr rfl (Sat.mask S [true]) rfl rfl fun a fr => ?_
          refine sl_run orc_ok 2 rfl fr fun a fr => ?_
          refine sl_end ?_
          refine then_n ?_
          refine cw_f fr rfl ?_
          refine wp_exit ?_
          refine then_e ?_
          refine then_e ?_
          refine blk_y ?_
          exact ⟨k3, x12, fr.sub ⟨rfl, rfl, rfl, rfl, trivial⟩, S, h⟩
    · rintro a w ⟨kj1, x7, fr, S, h⟩
      rw [partitionEqualOrdered_uint32.j1] at h
      refine cw_cut (fun a w => ∃ x8 : Int, Fr 84 a [(0, (.slice A0 n0 c0)), (1, (.int .i64 a1)), (9, (.int .i64 x7)), (10, (.int .i64 x8))] ∧ Sat w0 w (rowA .u32 31 A0 c0 n0 l1 :: R) ∧ (partitionEqualOrdered_uint32.j2 (partitionEqualOrdered_uint32.l1 k1 a1 n0) x7 l1 n0 x8) = some r) ?_ ?_
      · refine wp_block ?_
        refine cw_loop (fun k2 a w => ∃ x9 : Int, Fr 84 a [(0, (.slice A0 n0 c0)), (1, (.int .i64 a1)), (9, (.int .i64 x7)), (10, (.int .i64 x9))] ∧ Sat w0 w (rowA .u32 31 A0 c0 n0 l1 :: R) ∧ (partitionEqualOrdered_uint32.l2 k2 (partitionEqualOrdered_uint32.l1 k1 a1 n0) x7 a1 n0 l1 x9) = some r) kj1 ⟨x3, fr.sub ⟨rfl, rfl, rfl, rfl, trivial⟩, S, h⟩ ?_ ?_
        · rintro a w ⟨x9, -, -, h⟩
          simp only [partitionEqualOrdered_uint32.l2] at h
          cases h
        · rintro k2 a w ⟨x9, fr, S, h⟩
          rw [partitionEqualOrdered_uint32.l2] at h
          refine wp_seq ?_
          refine wp_seq ?_
          refine wp_region_sl [.one (0, true, some 46), .one (1, true, some 47), .one (2, true, some 48), .one (3, true, some 49), .one (4, true, some 50), .one (5, true, some 51), .one (6, true, some 52), .one (7, true, some 53), .one (8, true, some 54), .one (9, true, some 55), .one (10, true, some 56), .one (11, true, some 57), .one (12, false, some 58), .one (13, true, some 59)]
            [.one ⟨true, some 46, (Go.Op.move (Go.Operand.tmp 9)), 3, none⟩,
    .one ⟨true, some 47, (Go.Op.move (Go.Operand.tmp 10)), 3, none⟩,
    .one ⟨true, some 48, (Go.Op.binOp Go.BinOp.leq 3 (Go.Operand.tmp 46) (Go.Operand.tmp 47) 3), 4, none⟩,
    .one ⟨true, some 49, (Go.Op.move (Go.Operand.tmp 48)), 4, none⟩,
    .one ⟨true, some 50, (Go.Op.move (Go.Operand.tmp 0)), 72, some (49, true)⟩,
    .one ⟨true, some 51, (Go.Op.move (Go.Operand.tmp 1)), 3, some (49, true)⟩,
    .one ⟨true, some 52, (Go.Op.indexAddr 72 (Go.Operand.tmp 50) (Go.Operand.tmp 51)), 0, some (49, true)⟩,
    .one ⟨true, some 53, (Go.Op.load 31 (Go.Operand.tmp 52)), 31, some (49, true)⟩,
    .one ⟨true, some 54, (Go.Op.move (Go.Operand.tmp 0)), 72, some (49, true)⟩,
    .one ⟨true, some 55, (Go.Op.move (Go.Operand.tmp 10)), 3, some (49, true)⟩,
    .one ⟨true, some 56, (Go.Op.indexAddr 72 (Go.Operand.tmp 54) (Go.Operand.tmp 55)), 0, some (49, true)⟩,
    .one ⟨true, some 57, (Go.Op.load 31 (Go.Operand.tmp 56)), 31, some (49, true)⟩,
    .one ⟨false, some 58, (Go.Op.call { callee := (Go.Callee.value (Go.Operand.func 107)), args := #[(Go.Operand.tmp 53), (Go.Operand.tmp 57)], argTypes := #[31, 31] }), 4, some (49, true)⟩,
    .one ⟨true, some 59, (Go.Op.pick (Go.Operand.tmp 49) (Go.Operand.tmp 58) (Go.Operand.const (Go.Value.bool false))), 4, none⟩]
            (fun w => Sat w0 w (rowA .u32 31 A0 c0 n0 l1 :: R)) rfl (by kernel_rfl) (by kernel_rfl) (S.drew.mask [true]) ?_
          have S := S.drew
          refine sl_run orc_ok 4 rfl fr fun a fr => ?_
          refine sl_split 49 fr rfl h (fun fr h => ?_) (fun fr h => ?_)
          · refine sl_run orc_ok 2 rfl fr fun a fr => ?_
            obtain ⟨hc, h⟩ := ifs h
            refine sl_ld orc_ok (fun _ S => Sat.rowAt S 0 rfl) fr rfl rfl rfl rfl rfl rfl rfl rfl rfl rfl rfl rfl rfl rfl rfl rfl (Sat.rowLen S 0 rfl) rfl (Sat.rowHb S 0 rfl hc) (Sat.mask S [true]) fun a fr => ?_
            refine sl_run orc_ok 2 rfl fr fun a fr => ?_
            obtain ⟨hc, h⟩ := ifs h
            refine sl_ld orc_ok (fun _ S => Sat.rowAt S 0 rfl) fr rfl rfl rfl rfl rfl rfl rfl rfl rfl rfl rfl rfl rfl rfl rfl rfl (Sat.rowLen S 0 rfl) rfl (Sat.rowHb S 0 rfl hc) (Sat.mask S [true]) fun a fr => ?_
            obtain ⟨r11, hr, h⟩ := bnd h
            refine sl_call fr rfl rfl rfl rfl rfl en107 (Less_uint32.walk (List.getD l1 (Int.toNat a1) 0) (List.getD l1 (Int.toNat x9) 0) (fr.int (d := 53) rfl) (fr.int (d := 57) rfl) S hr) ?_
            rintro _ w ⟨rfl, hv, S⟩
            refine ⟨_, rfl, hv, (Sat.mask S [true]), fun a fr => ?_⟩
            refine sl_run orc_ok 1 rfl fr fun a fr => ?_
            refine sl_end ?_
            refine then_n ?_
            refine cw_if fr rfl h (fun h => ?_) (fun h => ?_)
            · refine wp_skip ?_
              refine then_n ?_
              refine wp_block ?_
              refine wp_region_lit ?_
              refine wl_run orc_ok 3 rfl fr fun a fr => ?_
              refine wpList_nil ?_
              refine blk_n ?_
              exact ⟨(IntKind.wrap .i64 (x9 - (1 : Int))), fr.sub ⟨rfl, rfl, rfl, rfl, trivial⟩, S, h⟩
            · refine wp_exit ?_
              refine then_e ?_
              refine then_e ?_
              refine blk_y ?_
              exact ⟨x9, fr.sub ⟨rfl, rfl, rfl, rfl, trivial⟩, S, h⟩
          · refine sl_run orc_ok 8 rfl fr fun a fr => ?_
            refine sl_no fr rfl (Sat.mask S [true]) rfl rfl fun a fr => ?_
            refine sl_run orc_ok 1 rfl fr fun a fr => ?_
            refine sl_end ?_
            refine then_n ?_
            refine cw_f fr rfl ?_
            refine wp_exit ?_
            refine then_e ?_
            refine then_e ?_
            refine blk_y ?_
            exact ⟨x9, fr.sub ⟨rfl, rfl, rfl, rfl, trivial⟩, S, h⟩
      · rintro a w ⟨x8, fr, S, h⟩
        rw [partitionEqualOrdered_uint32.j2] at h
        refine wp_seq ?_
        refine wp_seq ?_
        refine wp_region_lit ?_
        refine wl_run orc_ok 3 rfl fr fun a fr => ?_
        refine wpList_nil ?_
        refine then_n ?_
        refine cw_if fr rfl h (fun h => ?_) (fun h => ?_)
        · refine wp_exit ?_
          refine then_e ?_
          refine blk_e rfl ?_
          refine then_e ?_
          refine blk_y ?_
          refine then_n ?_
          refine wp_seq ?_
          refine wp_region_lit ?_
          refine wl_run orc_ok 2 rfl fr fun a fr => ?_
          refine wpList_nil ?_
          refine then_n ?_
          refine wp_ret ?_
          injection h with h
          subst h
          refine ret1 fr rfl rfl ?_
          exact ⟨rfl, fr.vok (d := 8) rfl, S.mask [true]⟩
        · refine wp_skip ?_
          refine then_n ?_
          refine wp_seq ?_
          refine wp_region_ph [2, 3] [12, 13, 14, 15] [.one (2, true, some 67), .one (3, true, some 68)] [.one ⟨true, some 67, (Go.Op.move (Go.Operand.tmp 0)), 72, none⟩,
    .one ⟨true, some 68, (Go.Op.move (Go.Operand.tmp 10)), 3, none⟩] [.one (0, true, some 65), .one (1, true, some 66), .one (4, true, some 69), .one (5, true, some 70), .one (6, true, some 71), .one (7, true, some 72), .one (8, true, some 73), .one (9, true, some 74), .one (10, true, some 75), .one (11, true, some 76)]
            [.one ⟨true, some 65, (Go.Op.move (Go.Operand.tmp 0)), 72, none⟩,
    .one ⟨true, some 66, (Go.Op.move (Go.Operand.tmp 9)), 3, none⟩,
    .one ⟨true, some 69, (Go.Op.move (Go.Operand.tmp 0)), 72, none⟩,
    .one ⟨true, some 70, (Go.Op.move (Go.Operand.tmp 10)), 3, none⟩,
    .one ⟨true, some 71, (Go.Op.indexAddr 72 (Go.Operand.tmp 69) (Go.Operand.tmp 70)), 0, none⟩,
    .one ⟨true, some 72, (Go.Op.load 31 (Go.Operand.tmp 71)), 31, none⟩,
    .one ⟨true, some 73, (Go.Op.move (Go.Operand.tmp 0)), 72, none⟩,
    .one ⟨true, some 74, (Go.Op.move (Go.Operand.tmp 9)), 3, none⟩,
    .one ⟨true, some 75, (Go.Op.indexAddr 72 (Go.Operand.tmp 73) (Go.Operand.tmp 74)), 0, none⟩,
    .one ⟨true, some 76, (Go.Op.load 31 (Go.Operand.tmp 75)), 31, none⟩]
            [.one (12, true, some 77), .one (13, false, none), .one (14, true, some 78), .one (15, false, none)]
            [.one ⟨true, some 77, (Go.Op.indexAddr 72 (Go.Operand.tmp 65) (Go.Operand.tmp 66)), 0, none⟩,
    .one ⟨false, none, (Go.Op.store 31 (Go.Operand.tmp 77) (Go.Operand.tmp 72)), 0, none⟩,
    .one ⟨true, some 78, (Go.Op.indexAddr 72 (Go.Operand.tmp 67) (Go.Operand.tmp 68)), 0, none⟩,
    .one ⟨false, none, (Go.Op.store 31 (Go.Operand.tmp 78) (Go.Operand.tmp 76)), 0, none⟩]
            (fun w => Sat w0 w (rowA .u32 31 A0 c0 n0 l1 :: R)) (fun w => Sat w0 w (R)) rfl (by kernel_rfl) (by kernel_rfl) (by kernel_rfl) (by kernel_rfl) (S.drew.mask [true]) (fun _ S => S.mask [false]) ?_
          have S := S.drew
          refine sl_run orc_ok 2 rfl fr fun a fr => ?_
          refine sl_next ?_
          refine sl_run orc_ok 4 rfl fr fun a fr => ?_
          obtain ⟨hc, h⟩ := ifs h
          refine sl_ld orc_ok (fun _ S => Sat.rowAt S 0 rfl) fr rfl rfl rfl rfl rfl rfl rfl rfl rfl rfl rfl rfl rfl rfl rfl rfl (Sat.rowLen S 0 rfl) rfl (Sat.rowHb S 0 rfl hc) (Sat.mask S [true]) fun a fr => ?_
          refine sl_run orc_ok 2 rfl fr fun a fr => ?_
          obtain ⟨hc, h⟩ := ifs h
          refine sl_ld orc_ok (fun _ S => Sat.rowAt S 0 rfl) fr rfl rfl rfl rfl rfl rfl rfl rfl rfl rfl rfl rfl rfl rfl rfl rfl (Sat.rowLen S 0 rfl) rfl (Sat.rowHb S 0 rfl hc) (Sat.mask S [true]) fun a fr => ?_
          refine sl_next ?_
          obtain ⟨hc, h⟩ := ifs h
          have hp77 := hc
          refine sl_pe orc_ok (Sat.rowAt S 0 rfl) fr rfl rfl rfl rfl rfl rfl rfl rfl rfl (Sat.rowLen S 0 rfl) (Sat.rowHb S 0 rfl hc) fun a fr => ?_
          refine sl_str orc_ok fr rfl rfl rfl rfl rfl rfl rfl S hp77 ?_
          intro w S
          refine ⟨(Sat.mask S [false]), ?_⟩
          obtain ⟨hc, h⟩ := ifs h
          have hp78 := hc
          refine sl_pe orc_ok (Sat.rowAt S 0 rfl) fr rfl rfl rfl rfl rfl rfl rfl rfl rfl (Sat.rowLen S 0 rfl) (Sat.rowHb S 0 rfl hc) fun a fr => ?_
          refine sl_str orc_ok fr rfl rfl rfl rfl rfl rfl rfl S hp78 ?_
          intro w S
          refine ⟨(Sat.mask S [false]), ?_⟩
          refine sl_end ?_
          refine then_n ?_
          refine wp_seq ?_
          refine wp_region_lit ?_
          refine wl_run orc_ok 3 rfl fr fun a fr => ?_
          refine wpList_nil ?_
          refine then_n ?_
          refine wp_region_lit ?_
          refine wl_run orc_ok 3 rfl fr fun a fr => ?_
          refine wpList_nil ?_
          refine blk_n ?_
          exact ⟨(List.set (List.set l1 (Int.toNat x7) (List.getD l1 (Int.toNat x8) 0)) (Int.toNat x8) (List.getD l1 (Int.toNat x7) 0)), (IntKind.wrap .i64 (x7 + (1 : Int))), (IntKind.wrap .i64 (x8 - (1 : Int))), fr.sub ⟨rfl, rfl, rfl, rfl, trivial⟩, S, h⟩
set_option maxRecDepth 100000 in
set_option maxHeartbeats 4000000 in
theorem partitionOrdered_uint32.walk (k : Nat) (A0 : Option Addr) (c0 n0 : Nat) (l0 : List Int) (a1 : Int) (a2 : Int) (a3 : Int) {w0 w : World} {R : List Asn} (m0 : n0 ≤ c0 ∧ c0 ≤ maxLen) (v1 : (Lit.int .i64 a1).wf = true) (v2 : (Lit.int .i64 a2).wf = true) (v3 : (Lit.int .i64 a3).wf = true) (S : Sat w0 w (rowA .u32 31 A0 c0 n0 l0 :: R)) {r : Int × Bool × List Int} (h : partitionOrdered_uint32.f k n0 l0 a1 a2 a3 = some r) :
    Calls Tryz.prog 109 #[(.slice A0 n0 c0), (.int .i64 a1), (.int .i64 a2), (.int .i64 a3)] w fun e w' => e = .returned (.tuple #[(.int .i64 r.1), (.bool r.2.1)]) ∧ vok (.tuple #[(.int .i64 r.1), (.bool r.2.1)]) = true ∧ Sat w0 w' (rowA .u32 31 A0 c0 n0 r.2.2 :: R) := by
  unfold partitionOrdered_uint32.f at h
  refine calls_start (N := 168) [(.slice A0 n0 c0), (.int .i64 a1), (.int .i64 a2), (.int .i64 a3)] Tryz.func109 rfl rfl rfl (vok_c (vok_sl m0) (vok_c v1 (vok_c v2 (vok_c v3 rfl)))) fun a fr => ?_
  refine wp_seq ?_
  refine wp_region_lit ?_
  refine wl_run orc_ok 2 rfl fr fun a fr => ?_
  refine wpList_nil ?_
  refine then_n ?_
  refine wp_seq ?_
  refine wp_region_ph [2, 3] [12, 13, 14, 15] [.one (2, true, some 14), .one (3, true, some 15)] [.one ⟨true, some 14, (Go.Op.move (Go.Operand.tmp 0)), 72, none⟩,
    .one ⟨true, some 15, (Go.Op.move (Go.Operand.tmp 3)), 3, none⟩] [.one (0, true, some 12), .one (1, true, some 13), .one (4, true, some 16), .one (5, true, some 17), .one (6, true, some 18), .one (7, true, some 19), .one (8, true, some 20), .one (9, true, some 21), .one (10, true, some 22), .one (11, true, some 23)]
    [.one ⟨true, some 12, (Go.Op.move (Go.Operand.tmp 0)), 72, none⟩,
    .one ⟨true, some 13, (Go.Op.move (Go.Operand.tmp 1)), 3, none⟩,
    .one ⟨true, some 16, (Go.Op.move (Go.Operand.tmp 0)), 72, none⟩,
    .one ⟨true, some 17, (Go.Op.move (Go.Operand.tmp 3)), 3, none⟩,
    .one ⟨true, some 18, (Go.Op.indexAddr 72 (Go.Operand.tmp 16) (Go.Operand.tmp 17)), 0, none⟩,
    .one ⟨true, some 19, (Go.Op.load 31 (Go.Operand.tmp 18)), 31, none⟩,
    .one ⟨true, some 20, (Go.Op.move (Go.Operand.tmp 0)), 72, none⟩,
    .one ⟨true, some 21, (Go.Op.move (Go.Operand.tmp 1)), 3, none⟩,
    .one ⟨true, some 22, (Go.Op.indexAddr 72 (Go.Operand.tmp 20) (Go.Operand.tmp 21)), 0, none⟩,
    .one ⟨true, some 23, (Go.Op.load 31 (Go.Operand.tmp 22)), 31, none⟩]
    [.one (12, true, some 24), .one (13, false, none), .one (14, true, some 25), .one (15, false, none)]
    [.one ⟨true, some 24, (Go.Op.indexAddr 72 (Go.Operand.tmp 12) (Go.Operand.tmp 13)), 0, none⟩,
    .one ⟨false, none, (Go.Op.store 31 (Go.Operand.tmp 24) (Go.Operand.tmp 19)), 0, none⟩,
    .one ⟨true, some 25, (Go.Op.indexAddr 72 (Go.Operand.tmp 14) (Go.Operand.tmp 15)), 0, none⟩,
    .one ⟨false, none, (Go.Op.store 31 (Go.Operand.tmp 25) (Go.Operand.tmp 23)), 0, none⟩]
    (fun w => Sat w0 w (rowA .u32 31 A0 c0 n0 l0 :: R)) (fun w => Sat w0 w (R)) rfl (by kernel_rfl) (by kernel_rfl) (by kernel_rfl) (by kernel_rfl) (S.drew.mask [true]) (fun _ S => S.mask [false]) ?_
  have S := S.drew
  refine sl_run orc_ok 2 rfl fr fun a fr => ?_
  refine sl_next ?_
  refine sl_run orc_ok 4 rfl fr fun a fr => ?_
  obtain ⟨hc, h⟩ := ifs h
  refine sl_ld orc_ok (fun _ S => Sat.rowAt S 0 rfl) fr rfl rfl rfl rfl rfl rfl rfl rfl rfl rfl rfl rfl rfl rfl rfl rfl (Sat.rowLen S 0 rfl) rfl (Sat.rowHb S 0 rfl hc) (Sat.mask S [true]) fun a fr => ?_
  refine sl_run orc_ok 2 rfl fr fun a fr => ?_
  obtain ⟨hc, h⟩ := ifs h
  refine sl_ld orc_ok (fun _ S => Sat.rowAt S 0 rfl) fr rfl rfl rfl rfl rfl rfl rfl rfl rfl rfl rfl rfl rfl rfl rfl rfl (Sat.rowLen S 0 rfl) rfl (Sat.rowHb S 0 rfl hc) (Sat.mask S [true]) fun a fr => ?_
  refine sl_next ?_
  obtain ⟨hc, h⟩ := ifs h
  have hp24 := hc
  refine sl_pe orc_ok (Sat.rowAt S 0 rfl) fr rfl rfl rfl rfl rfl rfl rfl rfl rfl (Sat.rowLen S 0 rfl) (Sat.rowHb S 0 rfl hc) fun a fr => ?_
  refine sl_str orc_ok fr rfl rfl rfl rfl rfl rfl rfl S hp24 ?_
  intro w S
  refine ⟨(Sat.mask S [false]), ?_⟩
  obtain ⟨hc, h⟩ := ifs h
  have hp25 := hc
  refine sl_pe orc_ok (Sat.rowAt S 0 rfl) fr rfl rfl rfl rfl rfl rfl rfl rfl rfl (Sat.rowLen S 0 rfl) (Sat.rowHb S 0 rfl hc) fun a fr => ?_
  refine sl_str orc_ok fr rfl rfl rfl rfl rfl rfl rfl S hp25 ?_
  intro w S
  refine ⟨(Sat.mask S [false]), ?_⟩
  refine sl_end ?_
  refine then_n ?_
  refine wp_seq ?_
  refine wp_region_lit ?_
  refine wl_run orc_ok 6 rfl fr fun a fr => ?_
  refine wpList_nil ?_
  refine then_n ?_
  refine cw_cut (fun a w => ∃ kj1 : Nat, ∃ x1 : Int, Fr 168 a [(0, (.slice A0 n0 c0)), (1, (.int .i64 a1)), (10, (.int .i64 x1)), (11, (.int .i64 (IntKind.wrap .i64 (a2 - (1 : Int)))))] ∧ Sat w0 w (rowA .u32 31 A0 c0 n0 (List.set (List.set l0 (Int.toNat a1) (List.getD l0 (Int.toNat a3) 0)) (Int.toNat a3) (List.getD l0 (Int.toNat a1) 0)) :: R) ∧ (partitionOrdered_uint32.j1 kj1 n0 a1 l0 a3 a2 x1) = some r) ?_ ?_
  · refine wp_block ?_
    refine cw_loop (fun k5 a w => ∃ x20 : Int, Fr 168 a [(0, (.slice A0 n0 c0)), (1, (.int .i64 a1)), (10, (.int .i64 x20)), (11, (.int .i64 (IntKind.wrap .i64 (a2 - (1 : Int)))))] ∧ Sat w0 w (rowA .u32 31 A0 c0 n0 (List.set (List.set l0 (Int.toNat a1) (List.getD l0 (Int.toNat a3) 0)) (Int.toNat a3) (List.getD l0 (Int.toNat a1) 0)) :: R) ∧ (partitionOrdered_uint32.l5 k5 a2 n0 a1 l0 a3 x20) = some r) k ⟨(IntKind.wrap .i64 (a1 + (1 : Int))), fr.sub ⟨rfl, rfl, rfl, rfl, trivial⟩, S, h⟩ ?_ ?_
    · rintro a w ⟨x20, -, -, h⟩
      simp only [partitionOrdered_uint32.l5] at h
      cases h
    · rintro k5 a w ⟨x20, fr, S, h⟩
      rw [partitionOrdered_uint32.l5] at h
      refine wp_seq ?_
      refine wp_seq ?_
      refine wp_region_sl [.one (0, true, some 30), .one (1, true, some 31), .one (2, true, some 32), .one (3, true, some 33), .one (4, true, some 34), .one (5, true, some 35), .one (6, true, some 36), .one (7, true, some 37), .one (8, true, some 38), .one (9, true, some 39), .one (10, true, some 40), .one (11, true, some 41), .one (12, false, some 42), .one (13, true, some 43)]
        [.one ⟨true, some 30, (Go.Op.move (Go.Operand.tmp 10)), 3, none⟩,
    .one ⟨true, some 31, (Go.Op.move (Go.Operand.tmp 11)), 3, none⟩,
    .one ⟨true, some 32, (Go.Op.binOp Go.BinOp.leq 3 (Go.Operand.tmp 30) (Go.Operand.tmp 31) 3), 4, none⟩,
    .one ⟨true, some 33, (Go.Op.move (Go.Operand.tmp 32)), 4, none⟩,
    .one ⟨true, some 34, (Go.Op.move (Go.Operand.tmp 0)), 72, some (33, true)⟩,
    .one ⟨true, some 35, (Go.Op.move (Go.Operand.tmp 10)), 3, some (33, true)⟩,
    .one ⟨true, some 36, (Go.Op.indexAddr 72 (Go.Operand.tmp 34) (Go.Operand.tmp 35)), 0, some (33, true)⟩,
    .one ⟨true, some 37, (Go.Op.load 31 (Go.Operand.tmp 36)), 31, some (33, true)⟩,
    .one ⟨true, some 38, (Go.Op.move (Go.Operand.tmp 0)), 72, some (33, true)⟩,
    .one ⟨true, some 39, (Go.Op.move (Go.Operand.tmp 1)), 3, some (33, true)⟩,
    .one ⟨true, some 40, (Go.Op.indexAddr 72 (Go.Operand.tmp 38) (Go.Operand.tmp 39)), 0, some (33, true)⟩,
    .one ⟨true, some 41, (Go.Op.load 31 (Go.Operand.tmp 40)), 31, some (33, true)⟩,
    .one ⟨false, some 42, (Go.Op.call { callee := (Go.Callee.value (Go.Operand.func 107)), args := #[(Go.Operand.tmp 37), (Go.Operand.tmp 41)], argTypes := #[31, 31] }), 4, some (33, true)⟩,
    .one ⟨true, some 43, (Go.Op.pick (Go.Operand.tmp 33) (Go.Operand.tmp 42) (Go.Operand.const (Go.Value.bool false))), 4, none⟩]
        (fun w => Sat w0 w (rowA .u32 31 A0 c0 n0 (List.set (List.set l0 (Int.toNat a1) (List.getD l0 (Int.toNat a3) 0)) (Int.toNat a3) (List.getD l0 (Int.toNat a1) 0)) :: R)) rfl (by kernel_rfl) (by kernel_rfl) (S.drew.mask [true]) ?_
      have S := S.drew
      refine sl_run orc_ok 4 rfl fr fun a fr => ?_
      refine sl_split 33 fr rfl h (fun fr h => ?_) (fun fr h => ?_)
      · refine sl_run orc_ok 2 rfl fr fun a fr => ?_
        obtain ⟨hc, h⟩ := ifs h
        refine sl_ld orc_ok (fun _ S => Sat.rowAt S 0 rfl) fr rfl rfl rfl rfl rfl rfl rfl rfl rfl rfl rfl rfl rfl rfl rfl rfl (Sat.rowLen S 0 rfl) rfl (Sat.rowHb S 0 rfl hc) (Sat.mask S [true]) fun a fr => ?_
        refine sl_run orc_ok 2 rfl fr fun a fr => ?_
        obtain ⟨hc, h⟩ := ifs h
        refine sl_ld orc_ok (fun _ S => Sat.rowAt S 0 rfl) fr rfl rfl rfl rfl rfl rfl rfl rfl rfl rfl rfl rfl rfl rfl rfl rfl (Sat.rowLen S 0 rfl) rfl (Sat.rowHb S 0 rfl hc) (Sat.mask S [true]) fun a fr => ?_
        obtain ⟨r22, hr, h⟩ := bnd h
        refine sl_call fr rfl rfl rfl rfl rfl en107 (Less_uint32.walk (List.getD (List.set (List.set l0 (Int.toNat a1) (List.getD l0 (Int.toNat a3) 0)) (Int.toNat a3) (List.getD l0 (Int.toNat a1) 0)) (Int.toNat x20) 0) (List.getD (List.set (List.set l0 (Int.toNat a1) (List.getD l0 (Int.toNat a3) 0)) (Int.toNat a3) (List.getD l0 (Int.toNat a1) 0)) (Int.toNat a1) 0) (fr.int (d := 37) rfl) (fr.int (d := 41) rfl) S hr) ?_
        rintro _ w ⟨rfl, hv, S⟩
        refine ⟨_, rfl, hv, (Sat.mask S [true]), fun a fr => ?_⟩
        refine sl_run orc_ok 1 rfl fr fun a fr => ?_
        refine sl_end ?_
        refine then_n ?_
        refine cw_if fr rfl h (fun h => ?_) (fun h => ?_)
        · refine wp_skip ?_
          refine then_n ?_
          refine wp_block ?_
          refine wp_region_lit ?_
          refine wl_run orc_ok 3 rfl fr fun a fr => ?_
          refine wpList_nil ?_
          refine blk_n ?_
          exact ⟨(IntKind.wrap .i64 (x20 + (1 : Int))), fr.sub ⟨rfl, rfl, rfl, rfl, trivial⟩, S, h⟩
        · refine wp_exit ?_
          refine then_e ?_
          refine then_e ?_
          refine blk_y ?_
          exact ⟨k5, x20, fr.sub ⟨rfl, rfl, rfl, rfl, trivial⟩, S, h⟩
      · refine sl_run orc_ok 8 rfl fr fun a fr => ?_
        refine sl_no fr rfl (Sat.mask S [true]) rfl rfl fun a fr => ?_
        refine sl_run orc_ok 1 rfl fr fun a fr => ?_
        refine sl_end ?_
        refine then_n ?_
        refine cw_f fr rfl ?_
        refine wp_exit ?_
        refine then_e ?_
        refine then_e ?_
        refine blk_y ?_
        exact ⟨k5, x20, fr.sub ⟨rfl, rfl, rfl, rfl, trivial⟩, S, h⟩
  · rintro a w ⟨kj1, x1, fr, S, h⟩
    rw [partitionOrdered_uint32.j1] at h
    refine cw_cut (fun a w => ∃ kj2 : Nat, ∃ x2 : Int, Fr 168 a [(0, (.slice A0 n0 c0)), (1, (.int .i64 a1)), (10, (.int .i64 x1)), (11, (.int .i64 x2))] ∧ Sat w0 w (rowA .u32 31 A0 c0 n0 (List.set (List.set l0 (Int.toNat a1) (List.getD l0 (Int.toNat a3) 0)) (Int.toNat a3) (List.getD l0 (Int.toNat a1) 0)) :: R) ∧ (partitionOrdered_uint32.j2 kj2 x1 a1 n0 l0 a3 x2) = some r) ?_ ?_
    · refine wp_block ?_
      refine cw_loop (fun k4 a w => ∃ x17 : Int, Fr 168 a [(0, (.slice A0 n0 c0)), (1, (.int .i64 a1)), (10, (.int .i64 x1)), (11, (.int .i64 x17))] ∧ Sat w0 w (rowA .u32 31 A0 c0 n0 (List.set (List.set l0 (Int.toNat a1) (List.getD l0 (Int.toNat a3) 0)) (Int.toNat a3) (List.getD l0 (Int.toNat a1) 0)) :: R) ∧ (partitionOrdered_uint32.l4 k4 x1 n0 a1 l0 a3 x17) = some r) kj1 ⟨(IntKind.wrap .i64 (a2 - (1 : Int))), fr.sub ⟨rfl, rfl, rfl, rfl, trivial⟩, S, h⟩ ?_ ?_
      · rintro a w ⟨x17, -, -, h⟩
        simp only [partitionOrdered_uint32.l4] at h
        cases h
      · rintro k4 a w ⟨x17, fr, S, h⟩
        rw [partitionOrdered_uint32.l4] at h
        refine wp_seq ?_
        refine wp_seq ?_
        refine wp_region_sl [.one (0, true, some 46), .one (1, true, some 47), .one (2, true, some 48), .one (3, true, some 49), .one (4, true, some 50), .one (5, true, some 51), .one (6, true, some 52), .one (7, true, some 53), .one (8, true, some 54), .one (9, true, some 55), .one (10, true, some 56), .one (11, true, some 57), .one (12, false, some 58), .one (13, true, some 59), .one (14, true, some 60)]
          [.one ⟨true, some 46, (Go.Op.move (Go.Operand.tmp 10)), 3, none⟩,
    .one ⟨true, some 47, (Go.Op.move (Go.Operand.tmp 11)), 3, none⟩,
    .one ⟨true, some 48, (Go.Op.binOp Go.BinOp.leq 3 (Go.Operand.tmp 46) (Go.Operand.tmp 47) 3), 4, none⟩,
    .one ⟨true, some 49, (Go.Op.move (Go.Operand.tmp 48)), 4, none⟩,
    .one ⟨true, some 50, (Go.Op.move (Go.Operand.tmp 0)), 72, some (49, true)⟩,
    .one ⟨true, some 51, (Go.Op.move (Go.Operand.tmp 11)), 3, some (49, true)⟩,
    .one ⟨true, some 52, (Go.Op.indexAddr 72 (Go.Operand.tmp 50) (Go.Operand.tmp 51)), 0, some (49, true)⟩,
    .one ⟨true, some 53, (Go.Op.load 31 (Go.Operand.tmp 52)), 31, some (49, true)⟩,
    .one ⟨true, some 54, (Go.Op.move (Go.Operand.tmp 0)), 72, some (49, true)⟩,
    .one ⟨true, some 55, (Go.Op.move (Go.Operand.tmp 1)), 3, some (49, true)⟩,
    .one ⟨true, some 56, (Go.Op.indexAddr 72 (Go.Operand.tmp 54) (Go.Operand.tmp 55)), 0, some (49, true)⟩,
    .one ⟨true, some 57, (Go.Op.load 31 (Go.Operand.tmp 56)), 31, some (49, true)⟩,
    .one ⟨false, some 58, (Go.Op.call { callee := (Go.Callee.value (Go.Operand.func 107)), args := #[(Go.Operand.tmp 53), (Go.Operand.tmp 57)], argTypes := #[31, 31] }), 4, some (49, true)⟩,
    .one ⟨true, some 59, (Go.Op.unOp Go.UnOp.not 4 (Go.Operand.tmp 58)), 4, some (49, true)⟩,
    .one ⟨true, some 60, (Go.Op.pick (Go.Operand.tmp 49) (Go.Operand.tmp 59) (Go.Operand.const (Go.Value.bool false))), 4, none⟩]
          (fun w => Sat w0 w (rowA .u32 31 A0 c0 n0 (List.set (List.set l0 (Int.toNat a1) (List.getD l0 (Int.toNat a3) 0)) (Int.toNat a3) (List.getD l0 (Int.toNat a1) 0)) :: R)) rfl (by kernel_rfl) (by kernel_rfl) (S.drew.mask [true]) ?_
        have S := S.drew
        refine sl_run orc_ok 4 rfl fr fun a fr => ?_
        refine sl_split 49 fr rfl h (fun fr h => ?_) (fun fr h => ?_)
        · refine sl_run orc_ok 2 rfl fr fun a fr => ?_
          obtain ⟨hc, h⟩ := ifs h
          refine sl_ld orc_ok (fun _ S => Sat.rowAt S 0 rfl) fr rfl rfl rfl rfl rfl rfl rfl rfl rfl rfl rfl rfl rfl rfl rfl rfl (Sat.rowLen S 0 rfl) rfl (Sat.rowHb S 0 rfl hc) (Sat.mask S [true]) fun a fr => ?_
          refine sl_run orc_ok 2 rfl fr fun a fr => ?_
          obtain ⟨hc, h⟩ := ifs h
          refine sl_ld orc_ok (fun _ S => Sat.rowAt S 0 rfl) fr rfl rfl rfl rfl rfl rfl rfl rfl rfl rfl rfl rfl rfl rfl rfl rfl (Sat.rowLen S 0 rfl) rfl (Sat.rowHb S 0 rfl hc) (Sat.mask S [true]) fun a fr => ?_
          obtain ⟨r19, hr, h⟩ := bnd h
          refine sl_call fr rfl rfl rfl rfl rfl en107 (Less_uint32.walk (List.getD (List.set (List.set l0 (Int.toNat a1) (List.getD l0 (Int.toNat a3) 0)) (Int.toNat a3) (List.getD l0 (Int.toNat a1) 0)) (Int.toNat x17) 0) (List.getD (List.set (List.set l0 (Int.toNat a1) (List.getD l0 (Int.toNat a3) 0)) (Int.toNat a3) (List.getD l0 (Int.toNat a1) 0)) (Int.toNat a1) 0) (fr.int (d := 53) rfl) (fr.int (d := 57) rfl) S hr) ?_
          rintro _ w ⟨rfl, hv, S⟩
          refine ⟨_, rfl, hv, (Sat.mask S [true]), fun a fr => ?_⟩
          refine sl_run orc_ok 2 rfl fr fun a fr => ?_
          refine sl_end ?_
          refine then_n ?_
          refine cw_if fr rfl h (fun h => ?_) (fun h => ?_)
          · refine wp_skip ?_
            refine then_n ?_
            refine wp_block ?_
            refine wp_region_lit ?_
            refine wl_run orc_ok 3 rfl fr fun a fr => ?_
            refine wpList_nil ?_
            refine blk_n ?_
            exact ⟨(IntKind.wrap .i64 (x17 - (1 : Int))), fr.sub ⟨rfl, rfl, rfl, rfl, trivial⟩, S, h⟩
          · refine wp_exit ?_
            refine then_e ?_
            refine then_e ?_
            refine blk_y ?_
            exact ⟨k4, x17, fr.sub ⟨rfl, rfl, rfl, rfl, trivial⟩, S, h⟩
        · refine sl_run orc_ok 8 rfl fr fun a fr => ?_
          refine sl_no fr rfl (Sat.mask S [true]) rfl rfl fun a fr => ?_
          refine sl_run orc_ok 2 rfl fr fun a fr => ?_
          refine sl_end ?_
          refine then_n ?_
          refine cw_f fr rfl ?_
          refine wp_exit ?_
          refine then_e ?_
          refine then_e ?_
          refine blk_y ?_
          exact ⟨k4, x17, fr.sub ⟨rfl, rfl, rfl, rfl, trivial⟩, S, h⟩
    · rintro a w ⟨kj2, x2, fr, S, h⟩
      rw [partitionOrdered_uint32.j2] at h
      refine wp_seq ?_
      refine wp_seq ?_
      refine wp_region_lit ?_
      refine wl_run orc_ok 3 rfl fr fun a fr => ?_
      refine wpList_nil ?_
      refine then_n ?_
      refine cw_if fr rfl h (fun h => ?_) (fun h => ?_)
      · refine wp_seq ?_
        refine wp_region_ph [2, 3] [12, 13, 14, 15] [.one (2, true, some 68), .one (3, true, some 69)] [.one ⟨true, some 68, (Go.Op.move (Go.Operand.tmp 0)), 72, none⟩,
    .one ⟨true, some 69, (Go.Op.move (Go.Operand.tmp 1)), 3, none⟩] [.one (0, true, some 66), .one (1, true, some 67), .one (4, true, some 70), .one (5, true, some 71), .one (6, true, some 72), .one (7, true, some 73), .one (8, true, some 74), .one (9, true, some 75), .one (10, true, some 76), .one (11, true, some 77)]
          [.one ⟨true, some 66, (Go.Op.move (Go.Operand.tmp 0)), 72, none⟩,
    .one ⟨true, some 67, (Go.Op.move (Go.Operand.tmp 11)), 3, none⟩,
    .one ⟨true, some 70, (Go.Op.move (Go.Operand.tmp 0)), 72, none⟩,
    .one ⟨true, some 71, (Go.Op.move (Go.Operand.tmp 1)), 3, none⟩,
    .one ⟨true, some 72, (Go.Op.indexAddr 72 (Go.Operand.tmp 70) (Go.Operand.tmp 71)), 0, none⟩,
    .one ⟨true, some 73, (Go.Op.load 31 (Go.Operand.tmp 72)), 31, none⟩,
    .one ⟨true, some 74, (Go.Op.move (Go.Operand.tmp 0)), 72, none⟩,
    .one ⟨true, some 75, (Go.Op.move (Go.Operand.tmp 11)), 3, none⟩,
    .one ⟨true, some 76, (Go.Op.indexAddr 72 (Go.Operand.tmp 74) (Go.Operand.tmp 75)), 0, none⟩,
    .one ⟨true, some 77, (Go.Op.load 31 (Go.Operand.tmp 76)), 31, none⟩]
          [.one (12, true, some 78), .one (13, false, none), .one (14, true, some 79), .one (15, false, none)]
          [.one ⟨true, some 78, (Go.Op.indexAddr 72 (Go.Operand.tmp 66) (Go.Operand.tmp 67)), 0, none⟩,
    .one ⟨false, none, (Go.Op.store 31 (Go.Operand.tmp 78) (Go.Operand.tmp 73)), 0, none⟩,
    .one ⟨true, some 79, (Go.Op.indexAddr 72 (Go.Operand.tmp 68) (Go.Operand.tmp 69)), 0, none⟩,
    .one ⟨false, none, (Go.Op.store 31 (Go.Operand.tmp 79) (Go.Operand.tmp 77)), 0, none⟩]
          (fun w => Sat w0 w (rowA .u32 31 A0 c0 n0 (List.set (List.set l0 (Int.toNat a1) (List.getD l0 (Int.toNat a3) 0)) (Int.toNat a3) (List.getD l0 (Int.toNat a1) 0)) :: R)) (fun w => Sat w0 w (R)) rfl (by kernel_rfl) (by kernel_rfl) (by kernel_rfl) (by kernel_rfl) (S.drew.mask [true]) (fun _ S => S.mask [false]) ?_
        have S := S.drew
        refine sl_run orc_ok 2 rfl fr fun a fr => ?_
        refine sl_next ?_
        refine sl_run orc_ok 4 rfl fr fun a fr => ?_
        obtain ⟨hc, h⟩ := ifs h
        refine sl_ld orc_ok (fun _ S => Sat.rowAt S 0 rfl) fr rfl rfl rfl rfl rfl rfl rfl rfl rfl rfl rfl rfl rfl rfl rfl rfl (Sat.rowLen S 0 rfl) rfl (Sat.rowHb S 0 rfl hc) (Sat.mask S [true]) fun a fr => ?_
        refine sl_run orc_ok 2 rfl fr fun a fr => ?_
        obtain ⟨hc, h⟩ := ifs h
        refine sl_ld orc_ok (fun _ S => Sat.rowAt S 0 rfl) fr rfl rfl rfl rfl rfl rfl rfl rfl rfl rfl rfl rfl rfl rfl rfl rfl (Sat.rowLen S 0 rfl) rfl (Sat.rowHb S 0 rfl hc) (Sat.mask S [true]) fun a fr => ?_
        refine sl_next ?_
        obtain ⟨hc, h⟩ := ifs h
        have hp78 := hc
        refine sl_pe orc_ok (Sat.rowAt S 0 rfl) fr rfl rfl rfl rfl rfl rfl rfl rfl rfl (Sat.rowLen S 0 rfl) (Sat.rowHb S 0 rfl hc) fun a fr => ?_
        refine sl_str orc_ok fr rfl rfl rfl rfl rfl rfl rfl S hp78 ?_
        intro w S
        refine ⟨(Sat.mask S [false]), ?_⟩
        obtain ⟨hc, h⟩ := ifs h
        have hp79 := hc
        refine sl_pe orc_ok (Sat.rowAt S 0 rfl) fr rfl rfl rfl rfl rfl rfl rfl rfl rfl (Sat.rowLen S 0 rfl) (Sat.rowHb S 0 rfl hc) fun a fr => ?_
        refine sl_str orc_ok fr rfl rfl rfl rfl rfl rfl rfl S hp79 ?_
        intro w S
        refine ⟨(Sat.mask S [false]), ?_⟩
        refine sl_end ?_
        refine then_n ?_
        refine wp_seq ?_
        refine wp_region_lit ?_
        refine wl_run orc_ok 3 rfl fr fun a fr => ?_
        refine wpList_nil ?_
        refine then_n ?_
        refine wp_ret ?_
        refine then_r ?_
        injection h with h
        subst h
        refine ret2 fr rfl rfl rfl ?_
        exact ⟨rfl, vok_tupib fr (d := 8) (e := 9) rfl rfl, S.mask [true]⟩
      · refine wp_skip ?_
        refine then_n ?_
        refine wp_seq ?_
        refine wp_region_ph [2, 3] [12, 13, 14, 15] [.one (2, true, some 83), .one (3, true, some 84)] [.one ⟨true, some 83, (Go.Op.move (Go.Operand.tmp 0)), 72, none⟩,
    .one ⟨true, some 84, (Go.Op.move (Go.Operand.tmp 11)), 3, none⟩] [.one (0, true, some 81), .one (1, true, some 82), .one (4, true, some 85), .one (5, true, some 86), .one (6, true, some 87), .one (7, true, some 88), .one (8, true, some 89), .one (9, true, some 90), .one (10, true, some 91), .one (11, true, some 92)]
          [.one ⟨true, some 81, (Go.Op.move (Go.Operand.tmp 0)), 72, none⟩,
    .one ⟨true, some 82, (Go.Op.move (Go.Operand.tmp 10)), 3, none⟩,
    .one ⟨true, some 85, (Go.Op.move (Go.Operand.tmp 0)), 72, none⟩,
    .one ⟨true, some 86, (Go.Op.move (Go.Operand.tmp 11)), 3, none⟩,
    .one ⟨true, some 87, (Go.Op.indexAddr 72 (Go.Operand.tmp 85) (Go.Operand.tmp 86)), 0, none⟩,
    .one ⟨true, some 88, (Go.Op.load 31 (Go.Operand.tmp 87)), 31, none⟩,
    .one ⟨true, some 89, (Go.Op.move (Go.Operand.tmp 0)), 72, none⟩,
    .one ⟨true, some 90, (Go.Op.move (Go.Operand.tmp 10)), 3, none⟩,
    .one ⟨true, some 91, (Go.Op.indexAddr 72 (Go.Operand.tmp 89) (Go.Operand.tmp 90)), 0, none⟩,
    .one ⟨true, some 92, (Go.Op.load 31 (Go.Operand.tmp 91)), 31, none⟩]
          [.one (12, true, some 93), .one (13, false, none), .one (14, true, some 94), .one (15, false, none)]
          [.one ⟨true, some 93, (Go.Op.indexAddr 72 (Go.Operand.tmp 81) (Go.Operand.tmp 82)), 0, none⟩,
    .one ⟨false, none, (Go.Op.store 31 (Go.Operand.tmp 93) (Go.Operand.tmp 88)), 0, none⟩,
    .one ⟨true, some 94, (Go.Op.indexAddr 72 (Go.Operand.tmp 83) (Go.Operand.tmp 84)), 0, none⟩,
    .one ⟨false, none, (Go.Op.store 31 (Go.Operand.tmp 94) (Go.Operand.tmp 92)), 0, none⟩]
          (fun w => Sat w0 w (rowA .u32 31 A0 c0 n0 (List.set (List.set l0 (Int.toNat a1) (List.getD l0 (Int.toNat a3) 0)) (Int.toNat a3) (List.getD l0 (Int.toNat a1) 0)) :: R)) (fun w => Sat w0 w (R)) rfl (by kernel_rfl) (by kernel_rfl) (by kernel_rfl) (by kernel_rfl) (S.drew.mask [true]) (fun _ S => S.mask [false]) ?_
        have S := S.drew
        refine sl_run orc_ok 2 rfl fr fun a fr => ?_
        refine sl_next ?_
        refine sl_run orc_ok 4 rfl fr fun a fr => ?_
        obtain ⟨hc, h⟩ := ifs h
        refine sl_ld orc_ok (fun _ S => Sat.rowAt S 0 rfl) fr rfl rfl rfl rfl rfl rfl rfl rfl rfl rfl rfl rfl rfl rfl rfl rfl (Sat.rowLen S 0 rfl) rfl (Sat.rowHb S 0 rfl hc) (Sat.mask S [true]) fun a fr => ?_
        refine sl_run orc_ok 2 rfl fr fun a fr => ?_
        obtain ⟨hc, h⟩ := ifs h
        refine sl_ld orc_ok (fun _ S => Sat.rowAt S 0 rfl) fr rfl rfl rfl rfl rfl rfl rfl rfl rfl rfl rfl rfl rfl rfl rfl rfl (Sat.rowLen S 0 rfl) rfl (Sat.rowHb S 0 rfl hc) (Sat.mask S [true]) fun a fr => ?_
        refine sl_next ?_
        obtain ⟨hc, h⟩ := ifs h
        have hp93 := hc
        refine sl_pe orc_ok (Sat.rowAt S 0 rfl) fr rfl rfl rfl rfl rfl rfl rfl rfl rfl (Sat.rowLen S 0 rfl) (Sat.rowHb S 0 rfl hc) fun a fr => ?_
        refine sl_str orc_ok fr rfl rfl rfl rfl rfl rfl rfl S hp93 ?_
        intro w S
        refine ⟨(Sat.mask S [false]), ?_⟩
        obtain ⟨hc, h⟩ := ifs h
        have hp94 := hc
        refine sl_pe orc_ok (Sat.rowAt S 0 rfl) fr rfl rfl rfl rfl rfl rfl rfl rfl rfl (Sat.rowLen S 0 rfl) (Sat.rowHb S 0 rfl hc) fun a fr => ?_
        refine sl_str orc_ok fr rfl rfl rfl rfl rfl rfl rfl S hp94 ?_
        intro w S
        refine ⟨(Sat.mask S [false]), ?_⟩
        refine sl_end ?_
        refine then_n ?_
        refine wp_seq ?_
        refine wp_region_lit ?_
        refine wl_run orc_ok 3 rfl fr fun a fr => ?_
        refine wpList_nil ?_
        refine then_n ?_
        refine wp_seq ?_
        refine wp_region_lit ?_
        refine wl_run orc_ok 3 rfl fr fun a fr => ?_
        refine wpList_nil ?_
        refine then_n ?_
        refine wp_seq ?_
        refine wp_block ?_
        refine cw_loop (fun k1 a w => ∃ l3 : List Int, ∃ x4 : Int, ∃ x5 : Int, Fr 168 a [(0, (.slice A0 n0 c0)), (1, (.int .i64 a1)), (10, (.int .i64 x4)), (11, (.int .i64 x5))] ∧ Sat w0 w (rowA .u32 31 A0 c0 n0 l3 :: R) ∧ (partitionOrdered_uint32.l1 k1 n0 a1 l3 x4 x5) = some r) kj2 ⟨(List.set (List.set (List.set (List.set l0 (Int.toNat a1) (List.getD l0 (Int.toNat a3) 0)) (Int.toNat a3) (List.getD l0 (Int.toNat a1) 0)) (Int.toNat x1) (List.getD (List.set (List.set l0 (Int.toNat a1) (List.getD l0 (Int.toNat a3) 0)) (Int.toNat a3) (List.getD l0 (Int.toNat a1) 0)) (Int.toNat x2) 0)) (Int.toNat x2) (List.getD (List.set (List.set l0 (Int.toNat a1) (List.getD l0 (Int.toNat a3) 0)) (Int.toNat a3) (List.getD l0 (Int.toNat a1) 0)) (Int.toNat x1) 0)), (IntKind.wrap .i64 (x1 + (1 : Int))), (IntKind.wrap .i64 (x2 - (1 : Int))), fr.sub ⟨rfl, rfl, rfl, rfl, trivial⟩, S, h⟩ ?_ ?_
        · rintro a w ⟨l3, x4, x5, -, -, h⟩
          simp only [partitionOrdered_uint32.l1] at h
          cases h
        · rintro k1 a w ⟨l3, x4, x5, fr, S, h⟩
          rw [partitionOrdered_uint32.l1] at h
          refine wp_block ?_
          refine cw_cut (fun a w => ∃ kj3 : Nat, ∃ x9 : Int, Fr 168 a [(0, (.slice A0 n0 c0)), (1, (.int .i64 a1)), (10, (.int .i64 x9)), (11, (.int .i64 x5))] ∧ Sat w0 w (rowA .u32 31 A0 c0 n0 l3 :: R) ∧ (partitionOrdered_uint32.j3 kj3 (partitionOrdered_uint32.l1 k1 n0 a1) n0 a1 l3 x5 x9) = some r) ?_ ?_
          · refine wp_block ?_
            refine cw_loop (fun k3 a w => ∃ x14 : Int, Fr 168 a [(0, (.slice A0 n0 c0)), (1, (.int .i64 a1)), (10, (.int .i64 x14)), (11, (.int .i64 x5))] ∧ Sat w0 w (rowA .u32 31 A0 c0 n0 l3 :: R) ∧ (partitionOrdered_uint32.l3 k3 (partitionOrdered_uint32.l1 k1 n0 a1) x5 n0 a1 l3 x14) = some r) k1 ⟨x4, fr.sub ⟨rfl, rfl, rfl, rfl, trivial⟩, S, h⟩ ?_ ?_
            · rintro a w ⟨x14, -, -, h⟩
              simp only [partitionOrdered_uint32.l3] at h
              cases h
            · rintro k3 a w ⟨x14, fr, S, h⟩
              rw [partitionOrdered_uint32.l3] at h
              refine wp_seq ?_
              refine wp_seq ?_
              refine wp_region_sl [.one (0, true, some 99), .one (1, true, some 100), .one (2, true, some 101), .one (3, true, some 102), .one (4, true, some 103), .one (5, true, some 104), .one (6, true, some 105), .one (7, true, some 106), .one (8, true, some 107), .one (9, true, some 108), .one (10, true, some 109), .one (11, true, some 110), .one (12, false, some 111), .one (13, true, some 112)]
                [.one ⟨true, some 99, (Go.Op.move (Go.Operand.tmp 10)), 3, none⟩,
    .one ⟨true, some 100, (Go.Op.move (Go.Operand.tmp 11)), 3, none⟩,
    .one ⟨true, some 101, (Go.Op.binOp Go.BinOp.leq 3 (Go.Operand.tmp 99) (Go.Operand.tmp 100) 3), 4, none⟩,
    .one ⟨true, some 102, (Go.Op.move (Go.Operand.tmp 101)), 4, none⟩,
    .one ⟨true, some 103, (Go.Op.move (Go.Operand.tmp 0)), 72, some (102, true)⟩,
    .one ⟨true, some 104, (Go.Op.move (Go.Operand.tmp 10)), 3, some (102, true)⟩,
    .one ⟨true, some 105, (Go.Op.indexAddr 72 (Go.Operand.tmp 103) (Go.Operand.tmp 104)), 0, some (102, true)⟩,
    .one ⟨true, some 106, (Go.Op.load 31 (Go.Operand.tmp 105)), 31, some (102, true)⟩,
    .one ⟨true, some 107, (Go.Op.move (Go.Operand.tmp 0)), 72, some (102, true)⟩,
    .one ⟨true, some 108, (Go.Op.move (Go.Operand.tmp 1)), 3, some (102, true)⟩,
    .one ⟨true, some 109, (Go.Op.indexAddr 72 (Go.Operand.tmp 107) (Go.Operand.tmp 108)), 0, some (102, true)⟩,
    .one ⟨true, some 110, (Go.Op.load 31 (Go.Operand.tmp 109)), 31, some (102, true)⟩,
    .one ⟨false, some 111, (Go.Op.call { callee := (Go.Callee.value (Go.Operand.func 107)), args := #[(Go.Operand.tmp 106), (Go.Operand.tmp 110)], argTypes := #[31, 31] }), 4, some (102, true)⟩,
    .one ⟨true, some 112, (Go.Op.pick (Go.Operand.tmp 102) (Go.Operand.tmp 111) (Go.Operand.const (Go.Value.bool false))), 4, none⟩]
                (fun w => Sat w0 w (rowA .u32 31 A0 c0 n0 l3 :: R)) rfl (by kernel_rfl) (by kernel_rfl) (S.drew.mask [true]) ?_
              have S := S.drew
              refine sl_run orc_ok 4 rfl fr fun a fr => ?_
              refine sl_split 102 fr rfl h (fun fr h => ?_) (fun fr h => ?_)
              · refine sl_run orc_ok 2 rfl fr fun a fr => ?_
                obtain ⟨hc, h⟩ := ifs h
                refine sl_ld orc_ok (fun _ S => Sat.rowAt S 0 rfl) fr rfl rfl rfl rfl rfl rfl rfl rfl rfl rfl rfl rfl rfl rfl rfl rfl (Sat.rowLen S 0 rfl) rfl (Sat.rowHb S 0 rfl hc) (Sat.mask S [true]) fun a fr => ?_
                refine sl_run orc_ok 2 rfl fr fun a fr => ?_
                obtain ⟨hc, h⟩ := ifs h
                refine sl_ld orc_ok (fun _ S => Sat.rowAt S 0 rfl) fr rfl rfl rfl rfl rfl rfl rfl rfl rfl rfl rfl rfl rfl rfl rfl rfl (Sat.rowLen S 0 rfl) rfl (Sat.rowHb S 0 rfl hc) (Sat.mask S [true]) fun a fr => ?_
                obtain ⟨r16, hr, h⟩ := bnd h
                refine sl_call fr rfl rfl rfl rfl rfl en107 (Less_uint32.walk (List.getD l3 (Int.toNat x14) 0) (List.getD l3 (Int.toNat a1) 0) (fr.int (d := 106) rfl) (fr.int (d := 110) rfl) S hr) ?_
                rintro _ w ⟨rfl, hv, S⟩
                refine ⟨_, rfl, hv, (Sat.mask S [true]), fun a fr => ?_⟩
                refine sl_run orc_ok 1 rfl fr fun a fr => ?_
                refine sl_end ?_
                refine then_n ?_
                refine cw_if fr rfl h (fun h => ?_) (fun h => ?_)
                · refine wp_skip ?_
                  refine then_n ?_
                  refine wp_block ?_
                  refine wp_region_lit ?_
                  refine wl_run orc_ok 3 rfl fr fun a fr => ?_
                  refine wpList_nil ?_
                  refine blk_n ?_
                  exact ⟨(IntKind.wrap .i64 (x14 + (1 : Int))), fr.sub ⟨rfl, rfl, rfl, rfl, trivial⟩, S, h⟩
                · refine wp_exit ?_
                  refine then_e ?_
                  refine then_e ?_
                  refine blk_y ?_
                  exact ⟨k3, x14, fr.sub ⟨rfl, rfl, rfl, rfl, trivial⟩, S, h⟩
              · refine sl_run orc_ok 8 rfl fr fun a fr => ?_
                refine sl_no fr rfl (Sat.mask S [true]) rfl rfl fun a fr => ?_
                refine sl_run orc_ok 1 rfl fr fun a fr => ?_
                refine sl_end ?_
                refine then_n ?_
                refine cw_f fr rfl ?_
                refine wp_exit ?_
                refine then_e ?_
                refine then_e ?_
                refine blk_y ?_
                exact ⟨k3, x14, fr.sub ⟨rfl, rfl, rfl, rfl, trivial⟩, S, h⟩
          · rintro a w ⟨kj3, x9, fr, S, h⟩
            rw [partitionOrdered_uint32.j3] at h
            refine cw_cut (fun a w => ∃ x10 : Int, Fr 168 a [(0, (.slice A0 n0 c0)), (1, (.int .i64 a1)), (10, (.int .i64 x9)), (11, (.int .i64 x10))] ∧ Sat w0 w (rowA .u32 31 A0 c0 n0 l3 :: R) ∧ (partitionOrdered_uint32.j4 (partitionOrdered_uint32.l1 k1 n0 a1) x9 a1 n0 l3 x10) = some r) ?_ ?_
            · refine wp_block ?_
              refine cw_loop (fun k2 a w => ∃ x11 : Int, Fr 168 a [(0, (.slice A0 n0 c0)), (1, (.int .i64 a1)), (10, (.int .i64 x9)), (11, (.int .i64 x11))] ∧ Sat w0 w (rowA .u32 31 A0 c0 n0 l3 :: R) ∧ (partitionOrdered_uint32.l2 k2 (partitionOrdered_uint32.l1 k1 n0 a1) x9 n0 a1 l3 x11) = some r) kj3 ⟨x5, fr.sub ⟨rfl, rfl, rfl, rfl, trivial⟩, S, h⟩ ?_ ?_
              · rintro a w ⟨x11, -, -, h⟩
                simp only [partitionOrdered_uint32.l2] at h
                cases h
              · rintro k2 a w ⟨x11, fr, S, h⟩
                rw [partitionOrdered_uint32.l2] at h
                refine wp_seq ?_
                refine wp_seq ?_
                refine wp_region_sl [.one (0, true, some 115), .one (1, true, some 116), .one (2, true, some 117), .one (3, true, some 118), .one (4, true, some 119), .one (5, true, some 120), .one (6, true, some 121), .one (7, true, some 122), .one (8, true, some 123), .one (9, true, some 124), .one (10, true, some 125), .one (11, true, some 126), .one (12, false, some 127), .one (13, true, some 128), .one (14, true, some 129)]
                  [.one ⟨true, some 115, (Go.Op.move (Go.Operand.tmp 10)), 3, none⟩,
    .one ⟨true, some 116, (Go.Op.move (Go.Operand.tmp 11)), 3, none⟩,
    .one ⟨true, some 117, (Go.Op.binOp Go.BinOp.leq 3 (Go.Operand.tmp 115) (Go.Operand.tmp 116) 3), 4, none⟩,
    .one ⟨true, some 118, (Go.Op.move (Go.Operand.tmp 117)), 4, none⟩,
    .one ⟨true, some 119, (Go.Op.move (Go.Operand.tmp 0)), 72, some (118, true)⟩,
    .one ⟨true, some 120, (Go.Op.move (Go.Operand.tmp 11)), 3, some (118, true)⟩,
    .one ⟨true, some 121, (Go.Op.indexAddr 72 (Go.Operand.tmp 119) (Go.Operand.tmp 120)), 0, some (118, true)⟩,
    .one ⟨true, some 122, (Go.Op.load 31 (Go.Operand.tmp 121)), 31, some (118, true)⟩,
    .one ⟨true, some 123, (Go.Op.move (Go.Operand.tmp 0)), 72, some (118, true)⟩,
    .one ⟨true, some 124, (Go.Op.move (Go.Operand.tmp 1)), 3, some (118, true)⟩,
    .one ⟨true, some 125, (Go.Op.indexAddr 72 (Go.Operand.tmp 123) (Go.Operand.tmp 124)), 0, some (118, true)⟩,
    .one ⟨true, some 126, (Go.Op.load 31 (Go.Operand.tmp 125)), 31, some (118, true)⟩,
    .one ⟨false, some 127, (Go.Op.call { callee := (Go.Callee.value (Go.Operand.func 107)), args := #[(Go.Operand.tmp 122), (Go.Operand.tmp 126)], argTypes := #[31, 31] }), 4, some (118, true)⟩,
    .one ⟨true, some 128, (Go.Op.unOp Go.UnOp.not 4 (Go.Operand.tmp 127)), 4, some (118, true)⟩,
    .one ⟨true, some 129, (Go.Op.pick (Go.Operand.tmp 118) (Go.Operand.tmp 128) (Go.Operand.const (Go.Value.bool false))), 4, none⟩]
                  (fun w => Sat w0 w (rowA .u32 31 A0 c0 n0 l3 :: R)) rfl (by kernel_rfl) (by kernel_rfl) (S.drew.mask [true]) ?_
                have S := S.drew
                refine sl_run orc_ok 4 rfl fr fun a fr => ?_
                refine sl_split 118 fr rfl h (fun fr h => ?_) (fun fr h => ?_)
                · refine sl_run orc_ok 2 rfl fr fun a fr => ?_
                  obtain ⟨hc, h⟩ := ifs h
                  refine sl_ld orc_ok (fun _ S => Sat.rowAt S 0 rfl) fr rfl rfl rfl rfl rfl rfl rfl rfl rfl rfl rfl rfl rfl rfl rfl rfl (Sat.rowLen S 0 rfl) rfl (Sat.rowHb S 0 rfl hc) (Sat.mask S [true]) fun a fr => ?_
                  refine sl_run orc_ok 2 rfl fr fun a fr => ?_
                  obtain ⟨hc, h⟩ := ifs h
                  refine sl_ld orc_ok (fun _ S => Sat.rowAt S 0 rfl) fr rfl rfl rfl rfl rfl rfl rfl rfl rfl rfl rfl rfl rfl rfl rfl rfl (Sat.rowLen S 0 rfl) rfl (Sat.rowHb S 0 rfl hc) (Sat.mask S [true]) fun a fr => ?_
                  obtain ⟨r13, hr, h⟩ := bnd h
                  refine sl_call fr rfl rfl rfl rfl rfl en107 (Less_uint32.walk (List.getD l3 (Int.toNat x11) 0) (List.getD l3 (Int.toNat a1) 0) (fr.int (d := 122) rfl) (fr.int (d := 126) rfl) S hr) ?_
                  rintro _ w ⟨rfl, hv, S⟩
                  refine ⟨_, rfl, hv, (Sat.mask S [true]), fun a fr => ?_⟩
                  refine sl_run orc_ok 2 rfl fr fun a fr => ?_
                  refine sl_end ?_
                  refine then_n ?_
                  refine cw_if fr rfl h (fun h => ?_) (fun h => ?_)
                  · refine wp_skip ?_
                    refine then_n ?_
                    refine wp_block ?_
                    refine wp_region_lit ?_
                    refine wl_run orc_ok 3 rfl fr fun a fr => ?_
                    refine wpList_nil ?_
                    refine blk_n ?_
                    exact ⟨(IntKind.wrap .i64 (x11 - (1 : Int))), fr.sub ⟨rfl, rfl, rfl, rfl, trivial⟩, S, h⟩
                  · refine wp_exit ?_
                    refine then_e ?_
                    refine then_e ?_
                    refine blk_y ?_
                    exact ⟨x11, fr.sub ⟨rfl, rfl, rfl, rfl, trivial⟩, S, h⟩
                · refine sl_run orc_ok 8 rfl fr fun a fr => ?_
                  refine sl_no fr rfl (Sat.mask S [true]) rfl rfl fun a fr => ?_
                  refine sl_run orc_ok 2 rfl fr fun a fr => ?_
                  refine sl_end ?_
                  refine then_n ?_
                  refine cw_f fr rfl ?_
                  refine wp_exit ?_
                  refine then_e ?_
                  refine then_e ?_
                  refine blk_y ?_
                  exact ⟨x11, fr.sub ⟨rfl, rfl, rfl, rfl, trivial⟩, S, h⟩
            · rintro a w ⟨x10, fr, S, h⟩
              rw [partitionOrdered_uint32.j4] at h
              refine wp_seq ?_
              refine wp_seq ?_
              refine wp_region_lit ?_
              refine wl_run orc_ok 3 rfl fr fun a fr => ?_
              refine wpList_nil ?_
              refine then_n ?_
              refine cw_if fr rfl h (fun h => ?_) (fun h => ?_)
              · refine wp_exit ?_
                refine then_e ?_
                refine blk_e rfl ?_
                refine then_e ?_
                refine blk_y ?_
                refine then_n ?_
                refine wp_seq ?_
                refine wp_region_ph [2, 3] [12, 13, 14, 15] [.one (2, true, some 155), .one (3, true, some 156)] [.one ⟨true, some 155, (Go.Op.move (Go.Operand.tmp 0)), 72, none⟩,
    .one ⟨true, some 156, (Go.Op.move (Go.Operand.tmp 1)), 3, none⟩] [.one (0, true, some 153), .one (1, true, some 154), .one (4, true, some 157), .one (5, true, some 158), .one (6, true, some 159), .one (7, true, some 160), .one (8, true, some 161), .one (9, true, some 162), .one (10, true, some 163), .one (11, true, some 164)]
                  [.one ⟨true, some 153, (Go.Op.move (Go.Operand.tmp 0)), 72, none⟩,
    .one ⟨true, some 154, (Go.Op.move (Go.Operand.tmp 11)), 3, none⟩,
    .one ⟨true, some 157, (Go.Op.move (Go.Operand.tmp 0)), 72, none⟩,
    .one ⟨true, some 158, (Go.Op.move (Go.Operand.tmp 1)), 3, none⟩,
    .one ⟨true, some 159, (Go.Op.indexAddr 72 (Go.Operand.tmp 157) (Go.Operand.tmp 158)), 0, none⟩,
    .one ⟨true, some 160, (Go.Op.load 31 (Go.Operand.tmp 159)), 31, none⟩,
    .one ⟨true, some 161, (Go.Op.move (Go.Operand.tmp 0)), 72, none⟩,
    .one ⟨true, some 162, (Go.Op.move (Go.Operand.tmp 11)), 3, none⟩,
    .one ⟨true, some 163, (Go.Op.indexAddr 72 (Go.Operand.tmp 161) (Go.Operand.tmp 162)), 0, none⟩,
    .one ⟨true, some 164, (Go.Op.load 31 (Go.Operand.tmp 163)), 31, none⟩]
                  [.one (12, true, some 165), .one (13, false, none), .one (14, true, some 166), .one (15, false, none)]
                  [.one ⟨true, some 165, (Go.Op.indexAddr 72 (Go.Operand.tmp 153) (Go.Operand.tmp 154)), 0, none⟩,
    .one ⟨false, none, (Go.Op.store 31 (Go.Operand.tmp 165) (Go.Operand.tmp 160)), 0, none⟩,
    .one ⟨true, some 166, (Go.Op.indexAddr 72 (Go.Operand.tmp 155) (Go.Operand.tmp 156)), 0, none⟩,
    .one ⟨false, none, (Go.Op.store 31 (Go.Operand.tmp 166) (Go.Operand.tmp 164)), 0, none⟩]
                  (fun w => Sat w0 w (rowA .u32 31 A0 c0 n0 l3 :: R)) (fun w => Sat w0 w (R)) rfl (by kernel_rfl) (by kernel_rfl) (by kernel_rfl) (by kernel_rfl) (S.drew.mask [true]) (fun _ S => S.mask [false]) ?_
                have S := S.drew
                refine sl_run orc_ok 2 rfl fr fun a fr => ?_
                refine sl_next ?_
                refine sl_run orc_ok 4 rfl fr fun a fr => ?_
                obtain ⟨hc, h⟩ := ifs h
                refine sl_ld orc_ok (fun _ S => Sat.rowAt S 0 rfl) fr rfl rfl rfl rfl rfl rfl rfl rfl rfl rfl rfl rfl rfl rfl rfl rfl (Sat.rowLen S 0 rfl) rfl (Sat.rowHb S 0 rfl hc) (Sat.mask S [true]) fun a fr => ?_
                refine sl_run orc_ok 2 rfl fr fun a fr => ?_
                obtain ⟨hc, h⟩ := ifs h
                refine sl_ld orc_ok (fun _ S => Sat.rowAt S 0 rfl) fr rfl rfl rfl rfl rfl rfl rfl rfl rfl rfl rfl rfl rfl rfl rfl rfl (Sat.rowLen S 0 rfl) rfl (Sat.rowHb S 0 rfl hc) (Sat.mask S [true]) fun a fr => ?_
                refine sl_next ?_
                obtain ⟨hc, h⟩ := ifs h
                have hp165 := hc
                refine sl_pe orc_ok (Sat.rowAt S 0 rfl) fr rfl rfl rfl rfl rfl rfl rfl rfl rfl (Sat.rowLen S 0 rfl) (Sat.rowHb S 0 rfl hc) fun a fr => ?_
                refine sl_str orc_ok fr rfl rfl rfl rfl rfl rfl rfl S hp165 ?_
                intro w S
                refine ⟨(Sat.mask S [false]), ?_⟩
                obtain ⟨hc, h⟩ := ifs h
                have hp166 := hc
                refine sl_pe orc_ok (Sat.rowAt S 0 rfl) fr rfl rfl rfl rfl rfl rfl rfl rfl rfl (Sat.rowLen S 0 rfl) (Sat.rowHb S 0 rfl hc) fun a fr => ?_
                refine sl_str orc_ok fr rfl rfl rfl rfl rfl rfl rfl S hp166 ?_
                intro w S
                refine ⟨(Sat.mask S [false]), ?_⟩
                refine sl_end ?_
                refine then_n ?_
                refine wp_seq ?_
                refine wp_region_lit ?_
                refine wl_run orc_ok 3 rfl fr fun a fr => ?_
                refine wpList_nil ?_
                refine then_n ?_
                refine wp_ret ?_
                injection h with h
                subst h
                refine ret2 fr rfl rfl rfl ?_
                exact ⟨rfl, vok_tupib fr (d := 8) (e := 9) rfl rfl, S.mask [true]⟩
              · refine wp_skip ?_
                refine then_n ?_
                refine wp_seq ?_
                refine wp_region_ph [2, 3] [12, 13, 14, 15] [.one (2, true, some 137), .one (3, true, some 138)] [.one ⟨true, some 137, (Go.Op.move (Go.Operand.tmp 0)), 72, none⟩,
    .one ⟨true, some 138, (Go.Op.move (Go.Operand.tmp 11)), 3, none⟩] [.one (0, true, some 135), .one (1, true, some 136), .one (4, true, some 139), .one (5, true, some 140), .one (6, true, some 141), .one (7, true, some 142), .one (8, true, some 143), .one (9, true, some 144), .one (10, true, some 145), .one (11, true, some 146)]
                  [.one ⟨true, some 135, (Go.Op.move (Go.Operand.tmp 0)), 72, none⟩,
    .one ⟨true, some 136, (Go.Op.move (Go.Operand.tmp 10)), 3, none⟩,
    .one ⟨true, some 139, (Go.Op.move (Go.Operand.tmp 0)), 72, none⟩,
    .one ⟨true, some 140, (Go.Op.move (Go.Operand.tmp 11)), 3, none⟩,
    .one ⟨true, some 141, (Go.Op.indexAddr 72 (Go.Operand.tmp 139) (Go.Operand.tmp 140)), 0, none⟩,
    .one ⟨true, some 142, (Go.Op.load 31 (Go.Operand.tmp 141)), 31, none⟩,
    .one ⟨true, some 143, (Go.Op.move (Go.Operand.tmp 0)), 72, none⟩,
    .one ⟨true, some 144, (Go.Op.move (Go.Operand.tmp 10)), 3, none⟩,
    .one ⟨true, some 145, (Go.Op.indexAddr 72 (Go.Operand.tmp 143) (Go.Operand.tmp 144)), 0, none⟩,
    .one ⟨true, some 146, (Go.Op.load 31 (Go.Operand.tmp 145)), 31, none⟩]
                  [.one (12, true, some 147), .one (13, false, none), .one (14, true, some 148), .one (15, false, none)]
                  [.one ⟨true, some 147, (Go.Op.indexAddr 72 (Go.Operand.tmp 135) (Go.Operand.tmp 136)), 0, none⟩,
    .one ⟨false, none, (Go.Op.store 31 (Go.Operand.tmp 147) (Go.Operand.tmp 142)), 0, none⟩,
    .one ⟨true, some 148, (Go.Op.indexAddr 72 (Go.Operand.tmp 137) (Go.Operand.tmp 138)), 0, none⟩,
    .one ⟨false, none, (Go.Op.store 31 (Go.Operand.tmp 148) (Go.Operand.tmp 146)), 0, none⟩]
                  (fun w => Sat w0 w (rowA .u32 31 A0 c0 n0 l3 :: R)) (fun w => Sat w0 w (R)) rfl (by kernel_rfl) (by kernel_rfl) (by kernel_rfl) (by kernel_rfl) (S.drew.mask [true]) (fun _ S => S.mask [false]) ?_
                have S := S.drew
                refine sl_run orc_ok 2 rfl fr fun a fr => ?_
                refine sl_next ?_
                refine sl_run orc_ok 4 rfl fr fun a fr => ?_
                obtain ⟨hc, h⟩ := ifs h
                refine sl_ld orc_ok (fun _ S => Sat.rowAt S 0 rfl) fr rfl rfl rfl rfl rfl rfl rfl rfl rfl rfl rfl rfl rfl rfl rfl rfl (Sat.rowLen S 0 rfl) rfl (Sat.rowHb S 0 rfl hc) (Sat.mask S [true]) fun a fr => ?_
                refine sl_run orc_ok 2 rfl fr fun a fr => ?_
                obtain ⟨hc, h⟩ := ifs h
                refine sl_ld orc_ok (fun _ S => Sat.rowAt S 0 rfl) fr rfl rfl rfl rfl rfl rfl rfl rfl rfl rfl rfl rfl rfl rfl rfl rfl (Sat.rowLen S 0 rfl) rfl (Sat.rowHb S 0 rfl hc) (Sat.mask S [true]) fun a fr => ?_
                refine sl_next ?_
                obtain ⟨hc, h⟩ := ifs h
                have hp147 := hc
                refine sl_pe orc_ok (Sat.rowAt S 0 rfl) fr rfl rfl rfl rfl rfl rfl rfl rfl rfl (Sat.rowLen S 0 rfl) (Sat.rowHb S 0 rfl hc) fun a fr => ?_
                refine sl_str orc_ok fr rfl rfl rfl rfl rfl rfl rfl S hp147 ?_
                intro w S
                refine ⟨(Sat.mask S [false]), ?_⟩
                obtain ⟨hc, h⟩ := ifs h
                have hp148 := hc
                refine sl_pe orc_ok (Sat.rowAt S 0 rfl) fr rfl rfl rfl rfl rfl rfl rfl rfl rfl (Sat.rowLen S 0 rfl) (Sat.rowHb S 0 rfl hc) fun a fr => ?_
                refine sl_str orc_ok fr rfl rfl rfl rfl rfl rfl rfl S hp148 ?_
                intro w S
                refine ⟨(Sat.mask S [false]), ?_⟩
                refine sl_end ?_
                refine then_n ?_
                refine wp_seq ?_
                refine wp_region_lit ?_
                refine wl_run orc_ok 3 rfl fr fun a fr => ?_
                refine wpList_nil ?_
                refine then_n ?_
                refine wp_region_lit ?_
                refine wl_run orc_ok 3 rfl fr fun a fr => ?_
                refine wpList_nil ?_
                refine blk_n ?_
                exact ⟨(List.set (List.set l3 (Int.toNat x9) (List.getD l3 (Int.toNat x10) 0)) (Int.toNat x10) (List.getD l3 (Int.toNat x9) 0)), (IntKind.wrap .i64 (x9 + (1 : Int))), (IntKind.wrap .i64 (x10 - (1 : Int))), fr.sub ⟨rfl, rfl, rfl, rfl, trivial⟩, S, h⟩
set_option maxRecDepth 100000 in
set_option maxHeartbeats 4000000 in
theorem nextPowerOfTwo.walk (a0 : Int) {w0 w : World} {R : List Asn} (v0 : (Lit.int .i64 a0).wf = true) (S : Sat w0 w R) {r : Int} (h : nextPowerOfTwo.f a0 = some r) :
    Calls Tryz.prog 120 #[(.int .i64 a0)] w fun e w' => e = .returned (.int .u64 r) ∧ vok (.int .u64 r) = true ∧ Sat w0 w' R := by
  have key : ∀ w0 : World, w0 = w → Sat w0 w [] → Calls Tryz.prog 120 #[(.int .i64 a0)] w fun e w' => e = .returned (.int .u64 r) ∧ vok (.int .u64 r) = true ∧ Sat w0 w' [] := by
    clear S
    intro w0 hw S
    clear hw
    unfold nextPowerOfTwo.f at h
    refine calls_start (N := 7) [(.int .i64 a0)] Tryz.func120 rfl rfl rfl (vok_c v0 rfl) fun a fr => ?_
    refine wp_seq ?_
    refine wp_region_lit ?_
    refine wl_run orc_ok 1 rfl fr fun a fr => ?_
    refine wpList_nil ?_
    refine then_n ?_
    refine wp_seq ?_
    refine wp_region_lit ?_
    refine wl_run orc_ok 2 rfl fr fun a fr => ?_
    obtain ⟨r1, hr, h⟩ := bnd h
    refine wl_call fr rfl rfl rfl rfl en87 (Len.walk (IntKind.wrap .u64 a0) (fr.int (d := 4) rfl) S hr) ?_
    rintro _ w ⟨rfl, hv, S⟩
    refine ⟨_, rfl, hv, fun a fr => ?_⟩
    obtain ⟨hc, h⟩ := ifs h
    refine wl_pv orc_ok fr rfl rfl rfl (po_shl rfl rfl rfl hc) fun a fr => ?_
    refine wl_run orc_ok 1 rfl fr fun a fr => ?_
    obtain ⟨y2, hx, h⟩ := lt_h h
    have fr := fr.spell (d := 2) rfl (congrArg (Value.int .u64) hx)
    refine wpList_nil ?_
    refine then_n ?_
    refine wp_ret ?_
    injection h with h
    subst h
    refine ret1 fr rfl rfl ?_
    exact ⟨rfl, fr.vok (d := 2) rfl, S.mask []⟩
  exact (key w rfl (Sat.start w)).mono fun e w' ⟨h1, h2, h3⟩ => ⟨h1, h2, S.new h3.below⟩
set_option maxRecDepth 100000 in
set_option maxHeartbeats 4000000 in
theorem Next.walk (g900 : Nat) (x900 : Int) {w0 w : World} {R : List Asn}  (S : Sat w0 w (stA 204 g900 [(.int .u64 x900)] :: R)) {r : Int × Int} (h : Next.f x900 = some r) :
    Calls Tryz.prog 121 #[(.pointer (some ⟨g900, 0, none⟩))] w fun e w' => e = .returned (.int .u64 r.1) ∧ vok (.int .u64 r.1) = true ∧ Sat w0 w' (stA 204 g900 [(.int .u64 r.2)] :: R) := by
  unfold Next.f at h
  refine calls_start (N := 33) [(.pointer (some ⟨g900, 0, none⟩))] Tryz.func121 rfl rfl rfl (vok_c rfl rfl) fun a fr => ?_
  refine wp_seq ?_
  refine wp_region_lit ?_
  refine wl_run orc_ok 1 rfl fr fun a fr => ?_
  refine wpList_nil ?_
  refine then_n ?_
  refine wp_seq ?_
  refine wp_region_ph [] [8, 9] [] [] [.one (0, true, some 3), .one (1, true, some 4), .one (2, true, some 5), .one (3, true, some 6), .one (4, true, some 7), .one (5, true, some 8), .one (6, true, some 9), .one (7, true, some 10)]
    [.one ⟨true, some 3, (Go.Op.move (Go.Operand.tmp 0)), 210, none⟩,
    .one ⟨true, some 4, (Go.Op.nilCheck (Go.Operand.tmp 3)), 0, none⟩,
    .one ⟨true, some 5, (Go.Op.load 204 (Go.Operand.tmp 4)), 204, none⟩,
    .one ⟨true, some 6, (Go.Op.move (Go.Operand.tmp 0)), 210, none⟩,
    .one ⟨true, some 7, (Go.Op.nilCheck (Go.Operand.tmp 6)), 0, none⟩,
    .one ⟨true, some 8, (Go.Op.load 204 (Go.Operand.tmp 7)), 204, none⟩,
    .one ⟨true, some 9, (Go.Op.binOp Go.BinOp.shl 204 (Go.Operand.tmp 8) (Go.Operand.const (Go.Value.int Go.IntKind.u64 13)) 152), 204, none⟩,
    .one ⟨true, some 10, (Go.Op.binOp Go.BinOp.xor 204 (Go.Operand.tmp 5) (Go.Operand.tmp 9) 204), 204, none⟩]
    [.one (8, true, some 11), .one (9, false, none)]
    [.one ⟨true, some 11, (Go.Op.nilCheck (Go.Operand.tmp 3)), 0, none⟩,
    .one ⟨false, none, (Go.Op.store 204 (Go.Operand.tmp 11) (Go.Operand.tmp 10)), 0, none⟩]
    (fun w => Sat w0 w (stA 204 g900 [(.int .u64 x900)] :: R)) (fun w => Sat w0 w (R)) rfl (by kernel_rfl) (by kernel_rfl) (by kernel_rfl) (by kernel_rfl) (S.drew.mask [true]) (fun _ S => S.mask [false]) ?_
  have S := S.drew
  refine sl_next ?_
  refine sl_run orc_ok 2 rfl fr fun a fr => ?_
  refine sl_ldf orc_ok (fun _ S => Sat.varAt S 0 rfl) fr rfl rfl rfl rfl rfl rfl rfl rfl (Sat.mask S [true]) fun a fr => ?_
  refine sl_run orc_ok 2 rfl fr fun a fr => ?_
  refine sl_ldf orc_ok (fun _ S => Sat.varAt S 0 rfl) fr rfl rfl rfl rfl rfl rfl rfl rfl (Sat.mask S [true]) fun a fr => ?_
  refine sl_run orc_ok 2 rfl fr fun a fr => ?_
  refine sl_next ?_
  refine sl_run orc_ok 1 rfl fr fun a fr => ?_
  refine sl_stv orc_ok fr rfl rfl rfl rfl rfl rfl rfl rfl rfl S ?_
  intro w S
  obtain ⟨x1, hx, h⟩ := lt_h h
  have S : Sat w0 w (stA 204 g900 [(.int .u64 (bitv .xor .u64 x900 (IntKind.wrap .u64 (x900 * 2 ^ 13))))] :: R) := S
  rw [hx] at S
  refine ⟨(Sat.mask S [false]), ?_⟩
  refine sl_end ?_
  refine then_n ?_
  refine wp_seq ?_
  refine wp_region_ph [] [8, 9] [] [] [.one (0, true, some 12), .one (1, true, some 13), .one (2, true, some 14), .one (3, true, some 15), .one (4, true, some 16), .one (5, true, some 17), .one (6, true, some 18), .one (7, true, some 19)]
    [.one ⟨true, some 12, (Go.Op.move (Go.Operand.tmp 0)), 210, none⟩,
    .one ⟨true, some 13, (Go.Op.nilCheck (Go.Operand.tmp 12)), 0, none⟩,
    .one ⟨true, some 14, (Go.Op.load 204 (Go.Operand.tmp 13)), 204, none⟩,
    .one ⟨true, some 15, (Go.Op.move (Go.Operand.tmp 0)), 210, none⟩,
    .one ⟨true, some 16, (Go.Op.nilCheck (Go.Operand.tmp 15)), 0, none⟩,
    .one ⟨true, some 17, (Go.Op.load 204 (Go.Operand.tmp 16)), 204, none⟩,
    .one ⟨true, some 18, (Go.Op.binOp Go.BinOp.shr 204 (Go.Operand.tmp 17) (Go.Operand.const (Go.Value.int Go.IntKind.u64 7)) 152), 204, none⟩,
    .one ⟨true, some 19, (Go.Op.binOp Go.BinOp.xor 204 (Go.Operand.tmp 14) (Go.Operand.tmp 18) 204), 204, none⟩]
    [.one (8, true, some 20), .one (9, false, none)]
    [.one ⟨true, some 20, (Go.Op.nilCheck (Go.Operand.tmp 12)), 0, none⟩,
    .one ⟨false, none, (Go.Op.store 204 (Go.Operand.tmp 20) (Go.Operand.tmp 19)), 0, none⟩]
    (fun w => Sat w0 w (stA 204 g900 [(.int .u64 x1)] :: R)) (fun w => Sat w0 w (R)) rfl (by kernel_rfl) (by kernel_rfl) (by kernel_rfl) (by kernel_rfl) (S.drew.mask [true]) (fun _ S => S.mask [false]) ?_
  have S := S.drew
  refine sl_next ?_
  refine sl_run orc_ok 2 rfl fr fun a fr => ?_
  refine sl_ldf orc_ok (fun _ S => Sat.varAt S 0 rfl) fr rfl rfl rfl rfl rfl rfl rfl rfl (Sat.mask S [true]) fun a fr => ?_
  refine sl_run orc_ok 2 rfl fr fun a fr => ?_
  refine sl_ldf orc_ok (fun _ S => Sat.varAt S 0 rfl) fr rfl rfl rfl rfl rfl rfl rfl rfl (Sat.mask S [true]) fun a fr => ?_
  refine sl_run orc_ok 2 rfl fr fun a fr => ?_
  refine sl_next ?_
  refine sl_run orc_ok 1 rfl fr fun a fr => ?_
  refine sl_stv orc_ok fr rfl rfl rfl rfl rfl rfl rfl rfl rfl S ?_
  intro w S
  obtain ⟨x2, hx, h⟩ := lt_h h
  have S : Sat w0 w (stA 204 g900 [(.int .u64 (bitv .xor .u64 x1 (Int.fdiv x1 (2 ^ 7))))] :: R) := S
  rw [hx] at S
  refine ⟨(Sat.mask S [false]), ?_⟩
  refine sl_end ?_
  refine then_n ?_
  refine wp_seq ?_
  refine wp_region_ph [] [8, 9] [] [] [.one (0, true, some 21), .one (1, true, some 22), .one (2, true, some 23), .one (3, true, some 24), .one (4, true, some 25), .one (5, true, some 26), .one (6, true, some 27), .one (7, true, some 28)]
    [.one ⟨true, some 21, (Go.Op.move (Go.Operand.tmp 0)), 210, none⟩,
    .one ⟨true, some 22, (Go.Op.nilCheck (Go.Operand.tmp 21)), 0, none⟩,
    .one ⟨true, some 23, (Go.Op.load 204 (Go.Operand.tmp 22)), 204, none⟩,
    .one ⟨true, some 24, (Go.Op.move (Go.Operand.tmp 0)), 210, none⟩,
    .one ⟨true, some 25, (Go.Op.nilCheck (Go.Operand.tmp 24)), 0, none⟩,
    .one ⟨true, some 26, (Go.Op.load 204 (Go.Operand.tmp 25)), 204, none⟩,
    .one ⟨true, some 27, (Go.Op.binOp Go.BinOp.shl 204 (Go.Operand.tmp 26) (Go.Operand.const (Go.Value.int Go.IntKind.u64 17)) 152), 204, none⟩,
    .one ⟨true, some 28, (Go.Op.binOp Go.BinOp.xor 204 (Go.Operand.tmp 23) (Go.Operand.tmp 27) 204), 204, none⟩]
    [.one (8, true, some 29), .one (9, false, none)]
    [.one ⟨true, some 29, (Go.Op.nilCheck (Go.Operand.tmp 21)), 0, none⟩,
    .one ⟨false, none, (Go.Op.store 204 (Go.Operand.tmp 29) (Go.Operand.tmp 28)), 0, none⟩]
    (fun w => Sat w0 w (stA 204 g900 [(.int .u64 x2)] :: R)) (fun w => Sat w0 w (R)) rfl (by kernel_rfl) (by kernel_rfl) (by kernel_rfl) (by kernel_rfl) (S.drew.mask [true]) (fun _ S => S.mask [false]) ?_
  have S := S.drew
  refine sl_next ?_
  refine sl_run orc_ok 2 rfl fr fun a fr => ?_
  refine sl_ldf orc_ok (fun _ S => Sat.varAt S 0 rfl) fr rfl rfl rfl rfl rfl rfl rfl rfl (Sat.mask S [true]) fun a fr => ?_
  refine sl_run orc_ok 2 rfl fr fun a fr => ?_
  refine sl_ldf orc_ok (fun _ S => Sat.varAt S 0 rfl) fr rfl rfl rfl rfl rfl rfl rfl rfl (Sat.mask S [true]) fun a fr => ?_
  refine sl_run orc_ok 2 rfl fr fun a fr => ?_
  refine sl_next ?_
  refine sl_run orc_ok 1 rfl fr fun a fr => ?_
  refine sl_stv orc_ok fr rfl rfl rfl rfl rfl rfl rfl rfl rfl S ?_
  intro w S
  obtain ⟨x3, hx, h⟩ := lt_h h
  have S : Sat w0 w (stA 204 g900 [(.int .u64 (bitv .xor .u64 x2 (IntKind.wrap .u64 (x2 * 2 ^ 17))))] :: R) := S
  rw [hx] at S
  refine ⟨(Sat.mask S [false]), ?_⟩
  refine sl_end ?_
  refine then_n ?_
  refine wp_seq ?_
  refine wp_region_lit ?_
  refine wl_run orc_ok 2 rfl fr fun a fr => ?_
  refine wl_ldf orc_ok (Sat.varAt S 0 rfl) fr rfl rfl rfl rfl rfl rfl rfl fun a fr => ?_
  refine wl_run orc_ok 1 rfl fr fun a fr => ?_
  refine wpList_nil ?_
  refine then_n ?_
  refine wp_ret ?_
  injection h with h
  subst h
  refine ret1 fr rfl rfl ?_
  exact ⟨rfl, fr.vok (d := 2) rfl, S.mask [true]⟩
set_option maxRecDepth 100000 in
set_option maxHeartbeats 4000000 in
theorem breakPatternsOrdered_uint32.walk (k : Nat) (A0 : Option Addr) (c0 n0 : Nat) (l0 : List Int) (a1 : Int) (a2 : Int) {w0 w : World} {R : List Asn} (m0 : n0 ≤ c0 ∧ c0 ≤ maxLen) (v1 : (Lit.int .i64 a1).wf = true) (v2 : (Lit.int .i64 a2).wf = true) (S : Sat w0 w (rowA .u32 31 A0 c0 n0 l0 :: R)) {r : List Int} (h : breakPatternsOrdered_uint32.f k n0 l0 a1 a2 = some r) :
    Calls Tryz.prog 103 #[(.slice A0 n0 c0), (.int .i64 a1), (.int .i64 a2)] w fun e w' => e = .returned (.tuple #[]) ∧ Sat w0 w' (rowA .u32 31 A0 c0 n0 r :: R) := by
  unfold breakPatternsOrdered_uint32.f at h
  refine calls_start (N := 65) [(.slice A0 n0 c0), (.int .i64 a1), (.int .i64 a2)] Tryz.func103 rfl rfl rfl (vok_c (vok_sl m0) (vok_c v1 (vok_c v2 rfl))) fun a fr => ?_
  refine wp_seq ?_
  refine wp_region_lit ?_
  refine wl_run orc_ok 4 rfl fr fun a fr => ?_
  refine wpList_nil ?_
  refine then_n ?_
  refine wp_seq ?_
  refine wp_region_lit ?_
  refine wl_run orc_ok 2 rfl fr fun a fr => ?_
  refine wpList_nil ?_
  refine then_n ?_
  refine cw_if fr rfl h (fun h => ?_) (fun h => ?_)
  · refine wp_seq ?_
    refine wp_region_lit ?_
    refine wl_run orc_ok 2 rfl fr fun a fr => ?_
    refine wl_allocv fr rfl rfl rfl rfl zero204 rfl rfl S ?_
    intro w g1 S a fr
    refine wl_stv orc_ok fr rfl rfl rfl rfl rfl rfl rfl rfl S ?_
    intro w S
    obtain ⟨x2, hx, h⟩ := lt_h h
    have S : Sat w0 w (stA 204 g1 [(.int .u64 (IntKind.wrap .u64 (IntKind.wrap .i64 (a2 - a1))))] :: rowA .u32 31 A0 c0 n0 l0 :: R) := S
    rw [hx] at S
    refine wpList_nil ?_
    refine then_n ?_
    refine wp_seq ?_
    refine wp_region_lit ?_
    refine wl_run orc_ok 1 rfl fr fun a fr => ?_
    obtain ⟨r3, hr, h⟩ := bnd h
    refine wl_call fr rfl rfl rfl rfl en120 (nextPowerOfTwo.walk (IntKind.wrap .i64 (a2 - a1)) (fr.int (d := 18) rfl) S hr) ?_
    rintro _ w ⟨rfl, hv, S⟩
    refine ⟨_, rfl, hv, fun a fr => ?_⟩
    refine wl_run orc_ok 1 rfl fr fun a fr => ?_
    refine wpList_nil ?_
    refine then_n ?_
    refine wp_seq ?_
    refine wp_region_lit ?_
    refine wl_run orc_ok 7 rfl fr fun a fr => ?_
    obtain ⟨y4, hx, h⟩ := lt_h h
    have fr := fr.spell (d := 9) rfl (congrArg (Value.int .i64) hx)
    refine wpList_nil ?_
    refine then_n ?_
    refine wp_block ?_
    refine cw_loop (fun k1 a w => ∃ x5 : Int, ∃ l6 : List Int, ∃ x7 : Int, Fr 65 a [(0, (.slice A0 n0 c0)), (1, (.int .i64 a1)), (6, (.int .i64 (IntKind.wrap .i64 (a2 - a1)))), (7, (.pointer (some ⟨g1, 0, none⟩))), (8, (.int .u64 r3)), (9, (.int .i64 x7))] ∧ Sat w0 w (stA 204 g1 [(.int .u64 x5)] :: rowA .u32 31 A0 c0 n0 l6 :: R) ∧ (breakPatternsOrdered_uint32.l1 k1 a1 a2 r3 n0 x5 l6 x7) = some r) k ⟨x2, l0, y4, fr.sub ⟨rfl, rfl, rfl, rfl, rfl, rfl, trivial⟩, S, h⟩ ?_ ?_
    · rintro a w ⟨x5, l6, x7, -, -, h⟩
      simp only [breakPatternsOrdered_uint32.l1] at h
      cases h
    · rintro k1 a w ⟨x5, l6, x7, fr, S, h⟩
      rw [breakPatternsOrdered_uint32.l1] at h
      refine wp_seq ?_
      refine wp_seq ?_
      refine wp_region_lit ?_
      refine wl_run orc_ok 8 rfl fr fun a fr => ?_
      refine wpList_nil ?_
      refine then_n ?_
      refine cw_if fr rfl h (fun h => ?_) (fun h => ?_)
      · refine wp_skip ?_
        refine then_n ?_
        refine wp_seq ?_
        refine wp_block ?_
        refine wp_seq ?_
        refine wp_region_lit ?_
        obtain ⟨r11, hr, h⟩ := bnd h
        refine wl_call fr rfl rfl rfl rfl en121 (Next.walk g1 x5 S hr) ?_
        rintro _ w ⟨rfl, hv, S⟩
        refine ⟨_, rfl, hv, fun a fr => ?_⟩
        refine wl_run orc_ok 5 rfl fr fun a fr => ?_
        obtain ⟨y12, hx, h⟩ := lt_h h
        have fr := fr.spell (d := 10) rfl (congrArg (Value.int .i64) hx)
        refine wpList_nil ?_
        refine then_n ?_
        refine cw_cut (fun a w => ∃ x13 : Int, Fr 65 a [(0, (.slice A0 n0 c0)), (1, (.int .i64 a1)), (6, (.int .i64 (IntKind.wrap .i64 (a2 - a1)))), (7, (.pointer (some ⟨g1, 0, none⟩))), (8, (.int .u64 r3)), (9, (.int .i64 x7)), (10, (.int .i64 x13))] ∧ Sat w0 w (stA 204 g1 [(.int .u64 r11.2)] :: rowA .u32 31 A0 c0 n0 l6 :: R) ∧ (breakPatternsOrdered_uint32.j1 (breakPatternsOrdered_uint32.l1 k1 a1 a2 r3 n0) a1 n0 x7 r11 l6 x13) = some r) ?_ ?_
        · refine wp_seq ?_
          refine wp_region_lit ?_
          refine wl_run orc_ok 3 rfl fr fun a fr => ?_
          refine wpList_nil ?_
          refine then_n ?_
          refine cw_if fr rfl h (fun h => ?_) (fun h => ?_)
          · refine wp_region_lit ?_
            refine wl_run orc_ok 4 rfl fr fun a fr => ?_
            obtain ⟨y14, hx, h⟩ := lt_h h
            have fr := fr.spell (d := 10) rfl (congrArg (Value.int .i64) hx)
            refine wpList_nil ?_
            exact ⟨y14, fr.sub ⟨rfl, rfl, rfl, rfl, rfl, rfl, rfl, trivial⟩, S, h⟩
          · refine wp_skip ?_
            exact ⟨y12, fr.sub ⟨rfl, rfl, rfl, rfl, rfl, rfl, rfl, trivial⟩, S, h⟩
        · rintro a w ⟨x13, fr, S, h⟩
          rw [breakPatternsOrdered_uint32.j1] at h
          refine wp_region_ph [2, 3, 4, 5] [16, 17, 18, 19] [.one (2, true, some 49), .one (3, true, some 50), .one (4, true, some 51), .one (5, true, some 52)] [.one ⟨true, some 49, (Go.Op.move (Go.Operand.tmp 0)), 72, none⟩,
    .one ⟨true, some 50, (Go.Op.move (Go.Operand.tmp 1)), 3, none⟩,
    .one ⟨true, some 51, (Go.Op.move (Go.Operand.tmp 10)), 3, none⟩,
    .one ⟨true, some 52, (Go.Op.binOp Go.BinOp.add 3 (Go.Operand.tmp 50) (Go.Operand.tmp 51) 3), 3, none⟩] [.one (0, true, some 47), .one (1, true, some 48), .one (6, true, some 53), .one (7, true, some 54), .one (8, true, some 55), .one (9, true, some 56), .one (10, true, some 57), .one (11, true, some 58), .one (12, true, some 59), .one (13, true, some 60), .one (14, true, some 61), .one (15, true, some 62)]
            [.one ⟨true, some 47, (Go.Op.move (Go.Operand.tmp 0)), 72, none⟩,
    .one ⟨true, some 48, (Go.Op.move (Go.Operand.tmp 9)), 3, none⟩,
    .one ⟨true, some 53, (Go.Op.move (Go.Operand.tmp 0)), 72, none⟩,
    .one ⟨true, some 54, (Go.Op.move (Go.Operand.tmp 1)), 3, none⟩,
    .one ⟨true, some 55, (Go.Op.move (Go.Operand.tmp 10)), 3, none⟩,
    .one ⟨true, some 56, (Go.Op.binOp Go.BinOp.add 3 (Go.Operand.tmp 54) (Go.Operand.tmp 55) 3), 3, none⟩,
    .one ⟨true, some 57, (Go.Op.indexAddr 72 (Go.Operand.tmp 53) (Go.Operand.tmp 56)), 0, none⟩,
    .one ⟨true, some 58, (Go.Op.load 31 (Go.Operand.tmp 57)), 31, none⟩,
    .one ⟨true, some 59, (Go.Op.move (Go.Operand.tmp 0)), 72, none⟩,
    .one ⟨true, some 60, (Go.Op.move (Go.Operand.tmp 9)), 3, none⟩,
    .one ⟨true, some 61, (Go.Op.indexAddr 72 (Go.Operand.tmp 59) (Go.Operand.tmp 60)), 0, none⟩,
    .one ⟨true, some 62, (Go.Op.load 31 (Go.Operand.tmp 61)), 31, none⟩]
            [.one (16, true, some 63), .one (17, false, none), .one (18, true, some 64), .one (19, false, none)]
            [.one ⟨true, some 63, (Go.Op.indexAddr 72 (Go.Operand.tmp 47) (Go.Operand.tmp 48)), 0, none⟩,
    .one ⟨false, none, (Go.Op.store 31 (Go.Operand.tmp 63) (Go.Operand.tmp 58)), 0, none⟩,
    .one ⟨true, some 64, (Go.Op.indexAddr 72 (Go.Operand.tmp 49) (Go.Operand.tmp 52)), 0, none⟩,
    .one ⟨false, none, (Go.Op.store 31 (Go.Operand.tmp 64) (Go.Operand.tmp 62)), 0, none⟩]
            (fun w => Sat w0 w (stA 204 g1 [(.int .u64 r11.2)] :: rowA .u32 31 A0 c0 n0 l6 :: R)) (fun w => Sat w0 w (stA 204 g1 [(.int .u64 r11.2)] :: R)) rfl (by kernel_rfl) (by kernel_rfl) (by kernel_rfl) (by kernel_rfl) (S.drew.mask [true, true]) (fun _ S => S.mask [true, false]) ?_
          have S := S.drew
          refine sl_run orc_ok 4 rfl fr fun a fr => ?_
          refine sl_next ?_
          refine sl_run orc_ok 6 rfl fr fun a fr => ?_
          obtain ⟨hc, h⟩ := ifs h
          refine sl_ld orc_ok (fun _ S => Sat.rowAt S 1 rfl) fr rfl rfl rfl rfl rfl rfl rfl rfl rfl rfl rfl rfl rfl rfl rfl rfl (Sat.rowLen S 1 rfl) rfl (Sat.rowHb S 1 rfl hc) (Sat.mask S [true, true]) fun a fr => ?_
          refine sl_run orc_ok 2 rfl fr fun a fr => ?_
          obtain ⟨hc, h⟩ := ifs h
          refine sl_ld orc_ok (fun _ S => Sat.rowAt S 1 rfl) fr rfl rfl rfl rfl rfl rfl rfl rfl rfl rfl rfl rfl rfl rfl rfl rfl (Sat.rowLen S 1 rfl) rfl (Sat.rowHb S 1 rfl hc) (Sat.mask S [true, true]) fun a fr => ?_
          refine sl_next ?_
          obtain ⟨hc, h⟩ := ifs h
          have hp63 := hc
          refine sl_pe orc_ok (Sat.rowAt S 1 rfl) fr rfl rfl rfl rfl rfl rfl rfl rfl rfl (Sat.rowLen S 1 rfl) (Sat.rowHb S 1 rfl hc) fun a fr => ?_
          have S : Sat w0 _ (rowA .u32 31 A0 c0 n0 l6 :: stA 204 g1 [(.int .u64 r11.2)] :: R) := S.frontAt 1 rfl
          refine sl_str orc_ok fr rfl rfl rfl rfl rfl rfl rfl S hp63 ?_
          intro w S
          refine ⟨(Sat.mask S [false, true]), ?_⟩
          obtain ⟨hc, h⟩ := ifs h
          have hp64 := hc
          refine sl_pe orc_ok (Sat.rowAt S 0 rfl) fr rfl rfl rfl rfl rfl rfl rfl rfl rfl (Sat.rowLen S 0 rfl) (Sat.rowHb S 0 rfl hc) fun a fr => ?_
          refine sl_str orc_ok fr rfl rfl rfl rfl rfl rfl rfl S hp64 ?_
          intro w S
          refine ⟨(Sat.mask S [false, true]), ?_⟩
          refine sl_end ?_
          refine blk_n ?_
          refine then_n ?_
          refine wp_region_lit ?_
          refine wl_run orc_ok 3 rfl fr fun a fr => ?_
          refine wpList_nil ?_
          have S : Sat w0 _ (stA 204 g1 [(.int .u64 r11.2)] :: rowA .u32 31 A0 c0 n0 (List.set (List.set l6 (Int.toNat x7) (List.getD l6 (Int.toNat (IntKind.wrap .i64 (a1 + x13))) 0)) (Int.toNat (IntKind.wrap .i64 (a1 + x13))) (List.getD l6 (Int.toNat x7) 0)) :: R) := S.frontAt 1 rfl
          exact ⟨r11.2, (List.set (List.set l6 (Int.toNat x7) (List.getD l6 (Int.toNat (IntKind.wrap .i64 (a1 + x13))) 0)) (Int.toNat (IntKind.wrap .i64 (a1 + x13))) (List.getD l6 (Int.toNat x7) 0)), (IntKind.wrap .i64 (x7 + (1 : Int))), fr.sub ⟨rfl, rfl, rfl, rfl, rfl, rfl, trivial⟩, S, h⟩
      · refine wp_exit ?_
        refine then_e ?_
        refine then_e ?_
        refine blk_y ?_
        have S : Sat w0 _ (rowA .u32 31 A0 c0 n0 l6 :: stA 204 g1 [(.int .u64 x5)] :: R) := S.frontAt 1 rfl
        refine end_ret ?_
        injection h with h
        subst h
        refine ret0 fr rfl ?_
        exact ⟨rfl, S.mask [true, false]⟩
  · refine wp_skip ?_
    refine end_ret ?_
    injection h with h
    subst h
    refine ret0 fr rfl ?_
    exact ⟨rfl, S.mask [true]⟩
set_option maxRecDepth 100000 in
set_option maxHeartbeats 4000000 in
theorem pdqsortOrdered_uint32.walk (k : Nat) : ∀ (A0 : Option Addr) (c0 n0 : Nat) (l0 : List Int) (a1 : Int) (a2 : Int) (a3 : Int) {w0 w : World} {R : List Asn} (m0 : n0 ≤ c0 ∧ c0 ≤ maxLen) (v1 : (Lit.int .i64 a1).wf = true) (v2 : (Lit.int .i64 a2).wf = true) (v3 : (Lit.int .i64 a3).wf = true) (S : Sat w0 w (rowA .u32 31 A0 c0 n0 l0 :: R)) {r : List Int} (h : pdqsortOrdered_uint32.f k n0 l0 a1 a2 a3 = some r),
    Calls Tryz.prog 86 #[(.slice A0 n0 c0), (.int .i64 a1), (.int .i64 a2), (.int .i64 a3)] w fun e w' => e = .returned (.tuple #[]) ∧ Sat w0 w' (rowA .u32 31 A0 c0 n0 r :: R) := by
  induction k with
  | zero => intro A0 c0 n0 l0 a1 a2 a3 w0 w R m0 v1 v2 v3 S r h; rw [pdqsortOrdered_uint32.f] at h; cases h
  | succ k ih =>
    intro A0 c0 n0 l0 a1 a2 a3 w0 w R m0 v1 v2 v3 S r h
    rw [pdqsortOrdered_uint32.f] at h
    refine calls_start (N := 134) [(.slice A0 n0 c0), (.int .i64 a1), (.int .i64 a2), (.int .i64 a3)] Tryz.func86 rfl rfl rfl (vok_c (vok_sl m0) (vok_c v1 (vok_c v2 (vok_c v3 rfl)))) fun a fr => ?_
    refine wp_seq ?_
    refine wp_region_lit ?_
    refine wl_run orc_ok 1 rfl fr fun a fr => ?_
    refine wpList_nil ?_
    refine then_n ?_
    refine wp_seq ?_
    refine wp_region_lit ?_
    refine wl_run orc_ok 1 rfl fr fun a fr => ?_
    refine wpList_nil ?_
    refine then_n ?_
    refine wp_block ?_
    refine cw_loop (fun k1 a w => ∃ l6 : List Int, ∃ x7 : Int, ∃ x8 : Int, ∃ x9 : Int, ∃ b10 : Bool, ∃ b11 : Bool, Fr 134 a [(0, (.slice A0 n0 c0)), (1, (.int .i64 x7)), (2, (.int .i64 x8)), (3, (.int .i64 x9)), (8, (.bool b10)), (9, (.bool b11))] ∧ Sat w0 w (rowA .u32 31 A0 c0 n0 l6 :: R) ∧ (pdqsortOrdered_uint32.l1 k1 (pdqsortOrdered_uint32.f k) n0 l6 x7 x8 x9 b10 b11) = some r) k ⟨l0, a1, a2, a3, true, true, fr.sub ⟨rfl, rfl, rfl, rfl, rfl, rfl, trivial⟩, S, h⟩ ?_ ?_
    · rintro a w ⟨l6, x7, x8, x9, b10, b11, -, -, h⟩
      simp only [pdqsortOrdered_uint32.l1] at h
      cases h
    · rintro k1 a w ⟨l6, x7, x8, x9, b10, b11, fr, S, h⟩
      rw [pdqsortOrdered_uint32.l1] at h
      refine wp_block ?_
      refine wp_seq ?_
      refine wp_region_lit ?_
      refine wl_run orc_ok 4 rfl fr fun a fr => ?_
      refine wpList_nil ?_
      refine then_n ?_
      refine wp_seq ?_
      refine wp_seq ?_
      refine wp_region_lit ?_
      refine wl_run orc_ok 2 rfl fr fun a fr => ?_
      refine wpList_nil ?_
      refine then_n ?_
      refine cw_if fr rfl h (fun h => ?_) (fun h => ?_)
      · refine wp_seq ?_
        refine wp_region_lit ?_
        refine wl_run orc_ok 3 rfl fr fun a fr => ?_
        obtain ⟨r18, hr, h⟩ := bnd h
        refine wl_call fr rfl rfl rfl rfl en101 (insertionSortOrdered_uint32.walk k1 A0 c0 n0 l6 x7 x8 (fr.slice (d := 24) rfl) (fr.int (d := 25) rfl) (fr.int (d := 26) rfl) S hr) ?_
        rintro _ w ⟨rfl, S⟩
        refine ⟨_, rfl, rfl, fun a fr => ?_⟩
        refine wpList_nil ?_
        refine then_n ?_
        refine wp_ret ?_
        refine then_r ?_
        refine blk_r ?_
        refine then_r ?_
        refine blk_r ?_
        injection h with h
        subst h
        refine ret0 fr rfl ?_
        exact ⟨rfl, S.mask [true]⟩
      · refine wp_skip ?_
        refine then_n ?_
        refine wp_seq ?_
        refine wp_seq ?_
        refine wp_region_lit ?_
        refine wl_run orc_ok 2 rfl fr fun a fr => ?_
        refine wpList_nil ?_
        refine then_n ?_
        refine cw_if fr rfl h (fun h => ?_) (fun h => ?_)
        · refine wp_seq ?_
          refine wp_region_lit ?_
          refine wl_run orc_ok 3 rfl fr fun a fr => ?_
          obtain ⟨r19, hr, h⟩ := bnd h
          refine wl_call fr rfl rfl rfl rfl en102 (heapSortOrdered_uint32.walk k1 A0 c0 n0 l6 x7 x8 (fr.slice (d := 30) rfl) (fr.int (d := 31) rfl) (fr.int (d := 32) rfl) S hr) ?_
          rintro _ w ⟨rfl, S⟩
          refine ⟨_, rfl, rfl, fun a fr => ?_⟩
          refine wpList_nil ?_
          refine then_n ?_
          refine wp_ret ?_
          refine then_r ?_
          refine blk_r ?_
          refine then_r ?_
          refine blk_r ?_
          injection h with h
          subst h
          refine ret0 fr rfl ?_
          exact ⟨rfl, S.mask [true]⟩
        · refine wp_skip ?_
          refine then_n ?_
          refine cw_cut (fun a w => ∃ kj1 : Nat, ∃ l20 : List Int, ∃ x21 : Int, Fr 134 a [(0, (.slice A0 n0 c0)), (1, (.int .i64 x7)), (2, (.int .i64 x8)), (3, (.int .i64 x21)), (8, (.bool b10)), (9, (.bool b11)), (10, (.int .i64 (IntKind.wrap .i64 (x8 - x7))))] ∧ Sat w0 w (rowA .u32 31 A0 c0 n0 l20 :: R) ∧ (pdqsortOrdered_uint32.j1 kj1 (pdqsortOrdered_uint32.f k) (pdqsortOrdered_uint32.l1 k1 (pdqsortOrdered_uint32.f k) n0) x7 x8 n0 b10 b11 l20 x21) = some r) ?_ ?_
          · refine wp_seq ?_
            refine wp_region_lit ?_
            refine wl_run orc_ok 2 rfl fr fun a fr => ?_
            refine wpList_nil ?_
            refine then_n ?_
            refine cw_if fr rfl h (fun h => ?_) (fun h => ?_)
            · refine wp_seq ?_
              refine wp_region_lit ?_
              refine wl_run orc_ok 3 rfl fr fun a fr => ?_
              obtain ⟨r39, hr, h⟩ := bnd h
              refine wl_call fr rfl rfl rfl rfl en103 (breakPatternsOrdered_uint32.walk k1 A0 c0 n0 l6 x7 x8 (fr.slice (d := 36) rfl) (fr.int (d := 37) rfl) (fr.int (d := 38) rfl) S hr) ?_
              rintro _ w ⟨rfl, S⟩
              refine ⟨_, rfl, rfl, fun a fr => ?_⟩
              refine wpList_nil ?_
              refine then_n ?_
              refine wp_region_lit ?_
              refine wl_run orc_ok 3 rfl fr fun a fr => ?_
              refine wpList_nil ?_
              exact ⟨k1, r39, (IntKind.wrap .i64 (x9 - (1 : Int))), fr.sub ⟨rfl, rfl, rfl, rfl, rfl, rfl, rfl, trivial⟩, S, h⟩
            · refine wp_skip ?_
              exact ⟨k1, l6, x9, fr.sub ⟨rfl, rfl, rfl, rfl, rfl, rfl, rfl, trivial⟩, S, h⟩
          · rintro a w ⟨kj1, l20, x21, fr, S, h⟩
            rw [pdqsortOrdered_uint32.j1] at h
            refine wp_seq ?_
            refine wp_region_lit ?_
            refine wl_run orc_ok 3 rfl fr fun a fr => ?_
            obtain ⟨r22, hr, h⟩ := bnd h
            refine wl_callE fr rfl rfl rfl rfl en104 (by rw [Sat.rowLen S 0 rfl]) (choosePivotOrdered_uint32.walk A0 c0 l20 x7 x8 (Sat.rowAt S 0 rfl) (by rw [← Sat.rowLen S 0 rfl]; exact fr.slice (d := 43) rfl) (fr.int (d := 44) rfl) (fr.int (d := 45) rfl) S hr) ?_
            rintro _ w ⟨rfl, hv, S⟩
            refine ⟨_, rfl, hv, fun a fr => ?_⟩
            refine wl_run orc_ok 5 rfl fr fun a fr => ?_
            refine wpList_nil ?_
            refine then_n ?_
            refine cw_cut (fun a w => ∃ kj2 : Nat, ∃ l23 : List Int, ∃ x24 : Int, ∃ x25 : Int, Fr 134 a [(0, (.slice A0 n0 c0)), (1, (.int .i64 x7)), (2, (.int .i64 x8)), (3, (.int .i64 x21)), (8, (.bool b10)), (9, (.bool b11)), (10, (.int .i64 (IntKind.wrap .i64 (x8 - x7)))), (11, (.int .i64 x24)), (12, (.int .i64 x25))] ∧ Sat w0 w (rowA .u32 31 A0 c0 n0 l23 :: R) ∧ (pdqsortOrdered_uint32.j2 kj2 (pdqsortOrdered_uint32.f k) (pdqsortOrdered_uint32.l1 k1 (pdqsortOrdered_uint32.f k) n0) b10 b11 n0 x7 x8 x21 l23 x24 x25) = some r) ?_ ?_
            · refine wp_seq ?_
              refine wp_region_lit ?_
              refine wl_run orc_ok 2 rfl fr fun a fr => ?_
              refine wpList_nil ?_
              refine then_n ?_
              refine cw_if fr rfl h (fun h => ?_) (fun h => ?_)
              · refine wp_seq ?_
                refine wp_region_lit ?_
                refine wl_run orc_ok 3 rfl fr fun a fr => ?_
                obtain ⟨r37, hr, h⟩ := bnd h
                refine wl_call fr rfl rfl rfl rfl en105 (reverseRangeOrdered_uint32.walk kj1 A0 c0 n0 l20 x7 x8 (fr.slice (d := 51) rfl) (fr.int (d := 52) rfl) (fr.int (d := 53) rfl) S hr) ?_
                rintro _ w ⟨rfl, S⟩
                refine ⟨_, rfl, rfl, fun a fr => ?_⟩
                refine wpList_nil ?_
                refine then_n ?_
                refine wp_seq ?_
                refine wp_region_lit ?_
                refine wl_run orc_ok 7 rfl fr fun a fr => ?_
                obtain ⟨y38, hx, h⟩ := lt_h h
                have fr := fr.spell (d := 11) rfl (congrArg (Value.int .i64) hx)
                refine wpList_nil ?_
                refine then_n ?_
                refine wp_region_lit ?_
                refine wl_run orc_ok 1 rfl fr fun a fr => ?_
                refine wpList_nil ?_
                exact ⟨kj1, r37, y38, (1 : Int), fr.sub ⟨rfl, rfl, rfl, rfl, rfl, rfl, rfl, rfl, rfl, trivial⟩, S, h⟩
              · refine wp_skip ?_
                exact ⟨kj1, l20, r22.1, r22.2, fr.sub ⟨rfl, rfl, rfl, rfl, rfl, rfl, rfl, rfl, rfl, trivial⟩, S, h⟩
            · rintro a w ⟨kj2, l23, x24, x25, fr, S, h⟩
              rw [pdqsortOrdered_uint32.j2] at h
              refine cw_cut (fun a w => ∃ kj3 : Nat, ∃ l26 : List Int, Fr 134 a [(0, (.slice A0 n0 c0)), (1, (.int .i64 x7)), (2, (.int .i64 x8)), (3, (.int .i64 x21)), (8, (.bool b10)), (9, (.bool b11)), (10, (.int .i64 (IntKind.wrap .i64 (x8 - x7)))), (11, (.int .i64 x24))] ∧ Sat w0 w (rowA .u32 31 A0 c0 n0 l26 :: R) ∧ (pdqsortOrdered_uint32.j3 kj3 (pdqsortOrdered_uint32.f k) (pdqsortOrdered_uint32.l1 k1 (pdqsortOrdered_uint32.f k) n0) x7 n0 x24 x8 x21 b10 b11 l26) = some r) ?_ ?_
              · refine wp_seq ?_
                refine wp_region_lit ?_
                refine wl_run orc_ok 2 rfl fr fun a fr => ?_
                refine wl_split 62 fr rfl h (fun fr h => ?_) (fun fr h => ?_)
                · refine wl_run orc_ok 3 rfl fr fun a fr => ?_
                  refine wl_split 65 fr rfl h (fun fr h => ?_) (fun fr h => ?_)
                  · refine wl_run orc_ok 3 rfl fr fun a fr => ?_
                    refine wpList_nil ?_
                    refine then_n ?_
                    refine cw_if fr rfl h (fun h => ?_) (fun h => ?_)
                    · refine wp_seq ?_
                      refine wp_region_lit ?_
                      refine wl_run orc_ok 3 rfl fr fun a fr => ?_
                      obtain ⟨r36, hr, h⟩ := bnd h
                      refine wl_call fr rfl rfl rfl rfl en106 (partialInsertionSortOrdered_uint32.walk kj2 A0 c0 n0 l23 x7 x8 (fr.slice (d := 69) rfl) (fr.int (d := 70) rfl) (fr.int (d := 71) rfl) S hr) ?_
                      rintro _ w ⟨rfl, hv, S⟩
                      refine ⟨_, rfl, hv, fun a fr => ?_⟩
                      refine wpList_nil ?_
                      refine then_n ?_
                      refine cw_if fr rfl h (fun h => ?_) (fun h => ?_)
                      · refine wp_ret ?_
                        refine then_r ?_
                        refine blk_r ?_
                        refine then_r ?_
                        refine blk_r ?_
                        injection h with h
                        subst h
                        refine ret0 fr rfl ?_
                        exact ⟨rfl, S.mask [true]⟩
                      · refine wp_skip ?_
                        exact ⟨kj2, r36.2, fr.sub ⟨rfl, rfl, rfl, rfl, rfl, rfl, rfl, rfl, trivial⟩, S, h⟩
                    · refine wp_skip ?_
                      exact ⟨kj2, l23, fr.sub ⟨rfl, rfl, rfl, rfl, rfl, rfl, rfl, rfl, trivial⟩, S, h⟩
                  · refine wl_run orc_ok 3 rfl fr fun a fr => ?_
                    refine wpList_nil ?_
                    refine then_n ?_
                    refine cw_f fr rfl ?_
                    refine wp_skip ?_
                    exact ⟨kj2, l23, fr.sub ⟨rfl, rfl, rfl, rfl, rfl, rfl, rfl, rfl, trivial⟩, S, h⟩
                · refine wl_run orc_ok 6 rfl fr fun a fr => ?_
                  refine wpList_nil ?_
                  refine then_n ?_
                  refine cw_f fr rfl ?_
                  refine wp_skip ?_
                  exact ⟨kj2, l23, fr.sub ⟨rfl, rfl, rfl, rfl, rfl, rfl, rfl, rfl, trivial⟩, S, h⟩
              · rintro a w ⟨kj3, l26, fr, S, h⟩
                rw [pdqsortOrdered_uint32.j3] at h
                refine cw_cut (fun a w => ∃ kj4 : Nat, Fr 134 a [(0, (.slice A0 n0 c0)), (1, (.int .i64 x7)), (2, (.int .i64 x8)), (3, (.int .i64 x21)), (10, (.int .i64 (IntKind.wrap .i64 (x8 - x7)))), (11, (.int .i64 x24))] ∧ Sat w0 w (rowA .u32 31 A0 c0 n0 l26 :: R) ∧ (pdqsortOrdered_uint32.j4 kj4 (pdqsortOrdered_uint32.f k) (pdqsortOrdered_uint32.l1 k1 (pdqsortOrdered_uint32.f k) n0) n0 l26 x7 x8 x24 x21) = some r) ?_ ?_
                · refine wp_seq ?_
                  refine wp_region_sl [.one (0, true, some 73), .one (1, true, some 74), .one (2, true, some 75), .one (3, true, some 76), .one (4, true, some 77), .one (5, true, some 78), .one (6, true, some 79), .one (7, true, some 80), .one (8, true, some 81), .one (9, true, some 82), .one (10, true, some 83), .one (11, true, some 84), .one (12, false, some 85), .one (13, true, some 86), .one (14, true, some 87)]
                    [.one ⟨true, some 73, (Go.Op.move (Go.Operand.tmp 1)), 3, none⟩,
    .one ⟨true, some 74, (Go.Op.binOp Go.BinOp.gtr 3 (Go.Operand.tmp 73) (Go.Operand.const (Go.Value.int Go.IntKind.i64 0)) 3), 4, none⟩,
    .one ⟨true, some 75, (Go.Op.move (Go.Operand.tmp 74)), 4, none⟩,
    .one ⟨true, some 76, (Go.Op.move (Go.Operand.tmp 0)), 72, some (75, true)⟩,
    .one ⟨true, some 77, (Go.Op.move (Go.Operand.tmp 1)), 3, some (75, true)⟩,
    .one ⟨true, some 78, (Go.Op.binOp Go.BinOp.sub 3 (Go.Operand.tmp 77) (Go.Operand.const (Go.Value.int Go.IntKind.i64 1)) 3), 3, some (75, true)⟩,
    .one ⟨true, some 79, (Go.Op.indexAddr 72 (Go.Operand.tmp 76) (Go.Operand.tmp 78)), 0, some (75, true)⟩,
    .one ⟨true, some 80, (Go.Op.load 31 (Go.Operand.tmp 79)), 31, some (75, true)⟩,
    .one ⟨true, some 81, (Go.Op.move (Go.Operand.tmp 0)), 72, some (75, true)⟩,
    .one ⟨true, some 82, (Go.Op.move (Go.Operand.tmp 11)), 3, some (75, true)⟩,
    .one ⟨true, some 83, (Go.Op.indexAddr 72 (Go.Operand.tmp 81) (Go.Operand.tmp 82)), 0, some (75, true)⟩,
    .one ⟨true, some 84, (Go.Op.load 31 (Go.Operand.tmp 83)), 31, some (75, true)⟩,
    .one ⟨false, some 85, (Go.Op.call { callee := (Go.Callee.value (Go.Operand.func 107)), args := #[(Go.Operand.tmp 80), (Go.Operand.tmp 84)], argTypes := #[31, 31] }), 4, some (75, true)⟩,
    .one ⟨true, some 86, (Go.Op.unOp Go.UnOp.not 4 (Go.Operand.tmp 85)), 4, some (75, true)⟩,
    .one ⟨true, some 87, (Go.Op.pick (Go.Operand.tmp 75) (Go.Operand.tmp 86) (Go.Operand.const (Go.Value.bool false))), 4, none⟩]
                    (fun w => Sat w0 w (rowA .u32 31 A0 c0 n0 l26 :: R)) rfl (by kernel_rfl) (by kernel_rfl) (S.drew.mask [true]) ?_
                  have S := S.drew
                  refine sl_run orc_ok 3 rfl fr fun a fr => ?_
                  refine sl_split 75 fr rfl h (fun fr h => ?_) (fun fr h => ?_)
                  · refine sl_run orc_ok 3 rfl fr fun a fr => ?_
                    obtain ⟨hc, h⟩ := ifs h
                    refine sl_ld orc_ok (fun _ S => Sat.rowAt S 0 rfl) fr rfl rfl rfl rfl rfl rfl rfl rfl rfl rfl rfl rfl rfl rfl rfl rfl (Sat.rowLen S 0 rfl) rfl (Sat.rowHb S 0 rfl hc) (Sat.mask S [true]) fun a fr => ?_
                    refine sl_run orc_ok 2 rfl fr fun a fr => ?_
                    obtain ⟨hc, h⟩ := ifs h
                    refine sl_ld orc_ok (fun _ S => Sat.rowAt S 0 rfl) fr rfl rfl rfl rfl rfl rfl rfl rfl rfl rfl rfl rfl rfl rfl rfl rfl (Sat.rowLen S 0 rfl) rfl (Sat.rowHb S 0 rfl hc) (Sat.mask S [true]) fun a fr => ?_
                    obtain ⟨r34, hr, h⟩ := bnd h
                    refine sl_call fr rfl rfl rfl rfl rfl en107 (Less_uint32.walk (List.getD l26 (Int.toNat (IntKind.wrap .i64 (x7 - (1 : Int)))) 0) (List.getD l26 (Int.toNat x24) 0) (fr.int (d := 80) rfl) (fr.int (d := 84) rfl) S hr) ?_
                    rintro _ w ⟨rfl, hv, S⟩
                    refine ⟨_, rfl, hv, (Sat.mask S [true]), fun a fr => ?_⟩
                    refine sl_run orc_ok 2 rfl fr fun a fr => ?_
                    refine sl_end ?_
                    refine then_n ?_
                    refine cw_if fr rfl h (fun h => ?_) (fun h => ?_)
                    · refine wp_seq ?_
                      refine wp_region_lit ?_
                      refine wl_run orc_ok 4 rfl fr fun a fr => ?_
                      obtain ⟨r35, hr, h⟩ := bnd h
                      refine wl_call fr rfl rfl rfl rfl en108 (partitionEqualOrdered_uint32.walk kj3 A0 c0 n0 l26 x7 x8 x24 (fr.slice (d := 88) rfl) (fr.int (d := 89) rfl) (fr.int (d := 90) rfl) (fr.int (d := 91) rfl) S hr) ?_
                      rintro _ w ⟨rfl, hv, S⟩
                      refine ⟨_, rfl, hv, fun a fr => ?_⟩
                      refine wl_run orc_ok 1 rfl fr fun a fr => ?_
                      refine wpList_nil ?_
                      refine then_n ?_
                      refine wp_seq ?_
                      refine wp_region_lit ?_
                      refine wl_run orc_ok 2 rfl fr fun a fr => ?_
                      refine wpList_nil ?_
                      refine then_n ?_
                      refine wp_exit ?_
                      refine then_e ?_
                      refine blk_y ?_
                      exact ⟨r35.2, r35.1, x8, x21, b10, b11, fr.sub ⟨rfl, rfl, rfl, rfl, rfl, rfl, trivial⟩, S, h⟩
                    · refine wp_skip ?_
                      exact ⟨kj3, fr.sub ⟨rfl, rfl, rfl, rfl, rfl, rfl, trivial⟩, S, h⟩
                  · refine sl_run orc_ok 9 rfl fr fun a fr => ?_
                    refine sl_no fr rfl (Sat.mask S [true]) rfl rfl fun a fr => ?_
                    refine sl_run orc_ok 2 rfl fr fun a fr => ?_
                    refine sl_end ?_
                    refine then_n ?_
                    refine cw_f fr rfl ?_
                    refine wp_skip ?_
                    exact ⟨kj3, fr.sub ⟨rfl, rfl, rfl, rfl, rfl, rfl, trivial⟩, S, h⟩
                · rintro a w ⟨kj4, fr, S, h⟩
                  rw [pdqsortOrdered_uint32.j4] at h
                  refine wp_seq ?_
                  refine wp_region_lit ?_
                  refine wl_run orc_ok 4 rfl fr fun a fr => ?_
                  obtain ⟨r27, hr, h⟩ := bnd h
                  refine wl_call fr rfl rfl rfl rfl en109 (partitionOrdered_uint32.walk kj4 A0 c0 n0 l26 x7 x8 x24 (fr.slice (d := 95) rfl) (fr.int (d := 96) rfl) (fr.int (d := 97) rfl) (fr.int (d := 98) rfl) S hr) ?_
                  rintro _ w ⟨rfl, hv, S⟩
                  refine ⟨_, rfl, hv, fun a fr => ?_⟩
                  refine wl_run orc_ok 5 rfl fr fun a fr => ?_
                  refine wpList_nil ?_
                  refine then_n ?_
                  refine wp_seq ?_
                  refine wp_region_lit ?_
                  refine wl_run orc_ok 2 rfl fr fun a fr => ?_
                  refine wpList_nil ?_
                  refine then_n ?_
                  refine wp_seq ?_
                  refine wp_region_lit ?_
                  refine wl_run orc_ok 7 rfl fr fun a fr => ?_
                  obtain ⟨y28, hx, h⟩ := lt_h h
                  have fr := fr.spell (d := 16) rfl (congrArg (Value.int .i64) hx)
                  refine wl_run orc_ok 1 rfl fr fun a fr => ?_
                  obtain ⟨y29, hx, h⟩ := lt_h h
                  have fr := fr.spell (d := 17) rfl (congrArg (Value.int .i64) hx)
                  refine wpList_nil ?_
                  refine then_n ?_
                  refine wp_seq ?_
                  refine wp_region_lit ?_
                  refine wl_run orc_ok 3 rfl fr fun a fr => ?_
                  obtain ⟨y30, hx, h⟩ := lt_h h
                  have fr := fr.spell (d := 18) rfl (congrArg (Value.int .i64) hx)
                  refine wpList_nil ?_
                  refine then_n ?_
                  refine wp_seq ?_
                  refine wp_region_lit ?_
                  refine wl_run orc_ok 3 rfl fr fun a fr => ?_
                  refine wpList_nil ?_
                  refine then_n ?_
                  refine cw_if fr rfl h (fun h => ?_) (fun h => ?_)
                  · refine wp_seq ?_
                    refine wp_region_lit ?_
                    refine wl_run orc_ok 4 rfl fr fun a fr => ?_
                    refine wpList_nil ?_
                    refine then_n ?_
                    refine wp_seq ?_
                    refine wp_region_lit ?_
                    refine wl_run orc_ok 4 rfl fr fun a fr => ?_
                    obtain ⟨r31, hr, h⟩ := bnd h
                    refine wl_call fr rfl rfl rfl rfl en86 (ih A0 c0 n0 r27.2.2 x7 r27.1 x21 (fr.slice (d := 117) rfl) (fr.int (d := 118) rfl) (fr.int (d := 119) rfl) (fr.int (d := 120) rfl) S hr) ?_
                    rintro _ w ⟨rfl, S⟩
                    refine ⟨_, rfl, rfl, fun a fr => ?_⟩
                    refine wpList_nil ?_
                    refine then_n ?_
                    refine wp_region_lit ?_
                    refine wl_run orc_ok 3 rfl fr fun a fr => ?_
                    obtain ⟨y32, hx, h⟩ := lt_h h
                    have fr := fr.spell (d := 1) rfl (congrArg (Value.int .i64) hx)
                    refine wpList_nil ?_
                    refine blk_n ?_
                    exact ⟨r31, y32, x8, x21, (decide (y28 ≥ y30)), r27.2.1, fr.sub ⟨rfl, rfl, rfl, rfl, rfl, rfl, trivial⟩, S, h⟩
                  · refine wp_seq ?_
                    refine wp_region_lit ?_
                    refine wl_run orc_ok 4 rfl fr fun a fr => ?_
                    refine wpList_nil ?_
                    refine then_n ?_
                    refine wp_seq ?_
                    refine wp_region_lit ?_
                    refine wl_run orc_ok 5 rfl fr fun a fr => ?_
                    obtain ⟨r33, hr, h⟩ := bnd h
                    refine wl_call fr rfl rfl rfl rfl en86 (ih A0 c0 n0 r27.2.2 (IntKind.wrap .i64 (r27.1 + (1 : Int))) x8 x21 (fr.slice (d := 127) rfl) (fr.int (d := 129) rfl) (fr.int (d := 130) rfl) (fr.int (d := 131) rfl) S hr) ?_
                    rintro _ w ⟨rfl, S⟩
                    refine ⟨_, rfl, rfl, fun a fr => ?_⟩
                    refine wpList_nil ?_
                    refine then_n ?_
                    refine wp_region_lit ?_
                    refine wl_run orc_ok 2 rfl fr fun a fr => ?_
                    refine wpList_nil ?_
                    refine blk_n ?_
                    exact ⟨r33, x7, r27.1, x21, (decide (y29 ≥ y30)), r27.2.1, fr.sub ⟨rfl, rfl, rfl, rfl, rfl, rfl, trivial⟩, S, h⟩
set_option maxRecDepth 100000 in
set_option maxHeartbeats 4000000 in
theorem Sort_uint32_uint32.walk (k : Nat) (A0 : Option Addr) (c0 n0 : Nat) (l0 : List Int) {w0 w : World} {R : List Asn} (m0 : n0 ≤ c0 ∧ c0 ≤ maxLen) (S : Sat w0 w (rowA .u32 31 A0 c0 n0 l0 :: R)) {r : List Int} (h : Sort_uint32_uint32.f k n0 l0 = some r) :
    Calls Tryz.prog 57 #[(.slice A0 n0 c0)] w fun e w' => e = .returned (.tuple #[]) ∧ Sat w0 w' (rowA .u32 31 A0 c0 n0 r :: R) := by
  unfold Sort_uint32_uint32.f at h
  refine calls_start (N := 11) [(.slice A0 n0 c0)] Tryz.func57 rfl rfl rfl (vok_c (vok_sl m0) rfl) fun a fr => ?_
  refine wp_seq ?_
  refine wp_region_lit ?_
  refine wl_run orc_ok 3 rfl fr fun a fr => ?_
  refine wpList_nil ?_
  refine then_n ?_
  refine wp_region_lit ?_
  refine wl_run orc_ok 4 rfl fr fun a fr => ?_
  obtain ⟨r1, hr, h⟩ := bnd h
  refine wl_call fr rfl rfl rfl rfl en87 (Len.walk (IntKind.wrap .u64 (n0 : Int)) (fr.int (d := 8) rfl) S hr) ?_
  rintro _ w ⟨rfl, hv, S⟩
  refine ⟨_, rfl, hv, fun a fr => ?_⟩
  obtain ⟨r2, hr, h⟩ := bnd h
  refine wl_call fr rfl rfl rfl rfl en86 (pdqsortOrdered_uint32.walk k A0 c0 n0 l0 (0 : Int) (n0 : Int) r1 (fr.slice (d := 5) rfl) rfl (fr.int (d := 6) rfl) (fr.int (d := 9) rfl) S hr) ?_
  rintro _ w ⟨rfl, S⟩
  refine ⟨_, rfl, rfl, fun a fr => ?_⟩
  refine wpList_nil ?_
  refine end_ret ?_
  injection h with h
  subst h
  refine ret0 fr rfl ?_
  exact ⟨rfl, S.mask [true]⟩
end Go.Proofs.YticnjkdaccacaaaGreat.QSortuint32uint32
end
