/- Texts of this work, one behind the other. -/
import Derived.Test.YticnjkdaccacaaaGreatVChiefsStay4
import Derived.Test.YticnjkdaccacaaaGreatProg
set_option maxRecDepth 100000
set_option maxHeartbeats 16000000
section
namespace Go.Proofs.YticnjkdaccacaaaGreat.QS
open Go Go.RowKit Sx Base Oq
def orc : Orc := ⟨[(3, .int .i64), (5, .int .u8), (9, .string), (31, .int .u32), (58, .int .u64), (72, .slice 31), (152, .int .u64), (204, .int .u64)],
 [(3, 1), (31, 1), (204, 1)]⟩
theorem o_ : orc.Ok Tryz.prog := ⟨⟨Tryz.underlying3, Tryz.underlying5, Tryz.underlying9, Tryz.underlying31, Tryz.underlying58, Tryz.underlying72, Tryz.underlying152, Tryz.underlying204, trivial⟩, ⟨by kernel_rfl, by kernel_rfl, by kernel_rfl, trivial⟩⟩
theorem en86 : Enters Tryz.prog 86 := fun _ _ => by kernel_rfl
theorem en87 : Enters Tryz.prog 87 := fun _ _ => by kernel_rfl
theorem en101 : Enters Tryz.prog 101 := fun _ _ => by kernel_rfl
theorem en102 : Enters Tryz.prog 102 := fun _ _ => by kernel_rfl
theorem en103 : Enters Tryz.prog 103 := fun _ _ => by kernel_rfl
theorem en104 : Enters Tryz.prog 104 := fun _ _ => by kernel_rfl
theorem en105 : Enters Tryz.prog 105 := fun _ _ => by kernel_rfl
theorem en106 : Enters Tryz.prog 106 := fun _ _ => by kernel_rfl
theorem en107 : Enters Tryz.prog 107 := fun _ _ => by kernel_rfl
theorem en108 : Enters Tryz.prog 108 := fun _ _ => by kernel_rfl
theorem en109 : Enters Tryz.prog 109 := fun _ _ => by kernel_rfl
theorem en111 : Enters Tryz.prog 111 := fun _ _ => by kernel_rfl
theorem en119 : Enters Tryz.prog 119 := fun _ _ => by kernel_rfl
theorem en120 : Enters Tryz.prog 120 := fun _ _ => by kernel_rfl
theorem en121 : Enters Tryz.prog 121 := fun _ _ => by kernel_rfl
theorem en122 : Enters Tryz.prog 122 := fun _ _ => by kernel_rfl
theorem en123 : Enters Tryz.prog 123 := fun _ _ => by kernel_rfl
theorem en124 : Enters Tryz.prog 124 := fun _ _ => by kernel_rfl
theorem en125 : Enters Tryz.prog 125 := fun _ _ => by kernel_rfl
theorem zero3 : ∀ W, (zeroValue 3).run Tryz.prog W = .ok (.int .i64 0) W := fun _ => by kernel_rfl
theorem zero204 : ∀ W, (zeroValue 204).run Tryz.prog W = .ok (.int .u64 0) W := fun _ => by kernel_rfl
theorem Len64.walk (a0 : Int) {w0 w : World} {R : List Asn} (v0 : (Lit.int .u64 a0).wf = true) (S : Sat w0 w R) {r : Int} (h : Len64.f a0 = some r) :
  Calls Tryz.prog 111 #[(.int .u64 a0)] w fun e w' => e = .returned (.int .i64 r) ∧ vok (.int .i64 r) = true ∧ Sat w0 w' R := by
 have key : ∀ w0 : World, w0 = w → Sat w0 w [] → Calls Tryz.prog 111 #[(.int .u64 a0)] w fun e w' => e = .returned (.int .i64 r) ∧ vok (.int .i64 r) = true ∧ Sat w0 w' [] := by
  clear S
  intro w0 hw S
  clear hw
  unfold Len64.f at h
  refine calls_start (N := 25) [(.int .u64 a0)] Tryz.func111 rfl rfl rfl (vok_c v0 rfl) fun a fr => ?_
  refine r_ rfl ?_
  refine wl_run o_ 1 rfl fr fun a fr => ?_
  refine e_ ?_
  refine cw_cut (fun a w => ∃ x1 : Int, ∃ x2 : Int, Fr 25 a [(0, (.int .u64 x1)), (2, (.int .i64 x2))] ∧ Sat w0 w [] ∧ (Len64.j1 x1 x2) = some r) ?_ ?_
  ·refine r_ rfl ?_
   refine wl_run o_ 2 rfl fr fun a fr => ?_
   refine e_ ?_
   refine cw_if fr rfl h (fun h => ?_) (fun h => ?_)
   ·refine r_ rfl ?_
    refine wl_run o_ 3 rfl fr fun a fr => ?_
    refine er_ rfl rfl ?_
    refine wl_run o_ 1 rfl fr fun a fr => ?_
    refine wpList_nil ?_
    exact ⟨(Int.fdiv a0 (2 ^ 32)), (32 : Int), fr.sub ⟨rfl, rfl, trivial⟩, S, h⟩
   ·refine wp_skip ?_
    exact ⟨a0, (0 : Int), fr.sub ⟨rfl, rfl, trivial⟩, S, h⟩
  ·rintro a w ⟨x1, x2, fr, S, h⟩
   rw [Len64.j1] at h
   refine cw_cut (fun a w => ∃ x3 : Int, ∃ x4 : Int, Fr 25 a [(0, (.int .u64 x3)), (2, (.int .i64 x4))] ∧ Sat w0 w [] ∧ (Len64.j2 x3 x4) = some r) ?_ ?_
   ·refine r_ rfl ?_
    refine wl_run o_ 2 rfl fr fun a fr => ?_
    refine e_ ?_
    refine cw_if fr rfl h (fun h => ?_) (fun h => ?_)
    ·refine r_ rfl ?_
     refine wl_run o_ 3 rfl fr fun a fr => ?_
     refine er_ rfl rfl ?_
     refine wl_run o_ 3 rfl fr fun a fr => ?_
     obtain ⟨y9, hx, h⟩ := lt_h h
     have fr := fr.spell (d := 2) rfl (congrArg (Value.int .i64) hx)
     refine wpList_nil ?_
     exact ⟨(Int.fdiv x1 (2 ^ 16)), y9, fr.sub ⟨rfl, rfl, trivial⟩, S, h⟩
    ·refine wp_skip ?_
     exact ⟨x1, x2, fr.sub ⟨rfl, rfl, trivial⟩, S, h⟩
   ·rintro a w ⟨x3, x4, fr, S, h⟩
    rw [Len64.j2] at h
    refine cw_cut (fun a w => ∃ x5 : Int, ∃ x6 : Int, Fr 25 a [(0, (.int .u64 x5)), (2, (.int .i64 x6))] ∧ Sat w0 w [] ∧ (Len64.j3 x5 x6) = some r) ?_ ?_
    ·refine r_ rfl ?_
     refine wl_run o_ 2 rfl fr fun a fr => ?_
     refine e_ ?_
     refine cw_if fr rfl h (fun h => ?_) (fun h => ?_)
     ·refine r_ rfl ?_
      refine wl_run o_ 3 rfl fr fun a fr => ?_
      refine er_ rfl rfl ?_
      refine wl_run o_ 3 rfl fr fun a fr => ?_
      obtain ⟨y8, hx, h⟩ := lt_h h
      have fr := fr.spell (d := 2) rfl (congrArg (Value.int .i64) hx)
      refine wpList_nil ?_
      exact ⟨(Int.fdiv x3 (2 ^ 8)), y8, fr.sub ⟨rfl, rfl, trivial⟩, S, h⟩
     ·refine wp_skip ?_
      exact ⟨x3, x4, fr.sub ⟨rfl, rfl, trivial⟩, S, h⟩
    ·rintro a w ⟨x5, x6, fr, S, h⟩
     rw [Len64.j3] at h
     refine r_ rfl ?_
     refine wl_run o_ 3 rfl fr fun a fr => ?_
     obtain ⟨hc, h⟩ := ifs h
     refine wl_ixs o_ fr rfl rfl rfl rfl rfl rfl rfl hc fun a fr => ?_
     refine wl_run o_ 3 rfl fr fun a fr => ?_
     obtain ⟨y7, hx, h⟩ := lt_h h
     have fr := fr.spell (d := 2) rfl (congrArg (Value.int .i64) hx)
     refine e_ ?_
     refine wp_ret ?_
     injection h with h
     subst h
     refine ret1 fr rfl rfl ?_
     exact ⟨rfl, fr.vok (d := 2) rfl, S.mask []⟩
 exact (key w rfl (Sat.start w)).mono fun e w' ⟨h1, h2, h3⟩ => ⟨h1, h2, S.new h3.below⟩
theorem Len.walk (a0 : Int) {w0 w : World} {R : List Asn} (v0 : (Lit.int .u64 a0).wf = true) (S : Sat w0 w R) {r : Int} (h : Len.f a0 = some r) :
  Calls Tryz.prog 87 #[(.int .u64 a0)] w fun e w' => e = .returned (.int .i64 r) ∧ vok (.int .i64 r) = true ∧ Sat w0 w' R := by
 have key : ∀ w0 : World, w0 = w → Sat w0 w [] → Calls Tryz.prog 87 #[(.int .u64 a0)] w fun e w' => e = .returned (.int .i64 r) ∧ vok (.int .i64 r) = true ∧ Sat w0 w' [] := by
  clear S
  intro w0 hw S
  clear hw
  unfold Len.f at h
  refine calls_start (N := 8) [(.int .u64 a0)] Tryz.func87 rfl rfl rfl (vok_c v0 rfl) fun a fr => ?_
  refine r_ rfl ?_
  refine wl_run o_ 1 rfl fr fun a fr => ?_
  refine eq_ rfl rfl ?_
  refine cw_f fr rfl ?_
  refine wp_skip ?_
  refine r_ rfl ?_
  refine wl_run o_ 1 rfl fr fun a fr => ?_
  obtain ⟨r1, hr, h⟩ := bnd h
  refine wl_call fr rfl rfl rfl rfl en111 (Len64.walk a0 (fr.int (d := 6) rfl) S hr) ?_
  rintro _ w ⟨rfl, hv, S⟩
  refine ⟨_, rfl, hv, fun a fr => ?_⟩
  refine wl_run o_ 1 rfl fr fun a fr => ?_
  refine e_ ?_
  refine wp_ret ?_
  injection h with h
  subst h
  refine ret1 fr rfl rfl ?_
  exact ⟨rfl, fr.vok (d := 2) rfl, S.mask []⟩
 exact (key w rfl (Sat.start w)).mono fun e w' ⟨h1, h2, h3⟩ => ⟨h1, h2, S.new h3.below⟩
theorem isNaN_uint32.walk (a0 : Int) {w0 w : World} {R : List Asn} (v0 : (Lit.int .u32 a0).wf = true) (S : Sat w0 w R) {r : Bool} (h : isNaN_uint32.f a0 = some r) :
  Calls Tryz.prog 124 #[(.int .u32 a0)] w fun e w' => e = .returned (.bool r) ∧ vok (.bool r) = true ∧ Sat w0 w' R := by
 have key : ∀ w0 : World, w0 = w → Sat w0 w [] → Calls Tryz.prog 124 #[(.int .u32 a0)] w fun e w' => e = .returned (.bool r) ∧ vok (.bool r) = true ∧ Sat w0 w' [] := by
  clear S
  intro w0 hw S
  clear hw
  unfold isNaN_uint32.f at h
  refine calls_start (N := 6) [(.int .u32 a0)] Tryz.func124 rfl rfl rfl (vok_c v0 rfl) fun a fr => ?_
  refine r_ rfl ?_
  refine wl_run o_ 1 rfl fr fun a fr => ?_
  refine er_ rfl rfl ?_
  refine wl_run o_ 4 rfl fr fun a fr => ?_
  refine e_ ?_
  refine wp_ret ?_
  injection h with h
  subst h
  refine ret1 fr rfl rfl ?_
  exact ⟨rfl, fr.vok (d := 2) rfl, S.mask []⟩
 exact (key w rfl (Sat.start w)).mono fun e w' ⟨h1, h2, h3⟩ => ⟨h1, h2, S.new h3.below⟩
theorem Less_uint32.walk (a0 : Int) (a1 : Int) {w0 w : World} {R : List Asn} (v0 : (Lit.int .u32 a0).wf = true) (v1 : (Lit.int .u32 a1).wf = true) (S : Sat w0 w R) {r : Bool} (h : Less_uint32.f a0 a1 = some r) :
  Calls Tryz.prog 107 #[(.int .u32 a0), (.int .u32 a1)] w fun e w' => e = .returned (.bool r) ∧ vok (.bool r) = true ∧ Sat w0 w' R := by
 have key : ∀ w0 : World, w0 = w → Sat w0 w [] → Calls Tryz.prog 107 #[(.int .u32 a0), (.int .u32 a1)] w fun e w' => e = .returned (.bool r) ∧ vok (.bool r) = true ∧ Sat w0 w' [] := by
  clear S
  intro w0 hw S
  clear hw
  unfold Less_uint32.f at h
  refine calls_start (N := 17) [(.int .u32 a0), (.int .u32 a1)] Tryz.func107 rfl rfl rfl (vok_c v0 (vok_c v1 rfl)) fun a fr => ?_
  refine r_ rfl ?_
  refine wl_run o_ 1 rfl fr fun a fr => ?_
  refine er_ rfl rfl ?_
  refine wl_run o_ 1 rfl fr fun a fr => ?_
  obtain ⟨r1, hr, h⟩ := bnd h
  refine wl_call fr rfl rfl rfl rfl en124 (isNaN_uint32.walk a0 (fr.int (d := 5) rfl) S hr) ?_
  rintro _ w ⟨rfl, hv, S⟩
  refine ⟨_, rfl, hv, fun a fr => ?_⟩
  refine wl_run o_ 1 rfl fr fun a fr => ?_
  refine wl_split 7 fr rfl h (fun fr h => ?_) (fun fr h => ?_)
  ·refine wl_run o_ 1 rfl fr fun a fr => ?_
   obtain ⟨r2, hr, h⟩ := bnd h
   refine wl_call fr rfl rfl rfl rfl en124 (isNaN_uint32.walk a1 (fr.int (d := 8) rfl) S hr) ?_
   rintro _ w ⟨rfl, hv, S⟩
   refine ⟨_, rfl, hv, fun a fr => ?_⟩
   refine wl_run o_ 3 rfl fr fun a fr => ?_
   refine wl_split 12 fr rfl h (fun fr h => ?_) (fun fr h => ?_)
   ·refine wl_run o_ 5 rfl fr fun a fr => ?_
    refine e_ ?_
    refine wp_ret ?_
    injection h with h
    subst h
    refine ret1 fr rfl rfl ?_
    exact ⟨rfl, fr.vok (d := 4) rfl, S.mask []⟩
   ·refine wl_run o_ 5 rfl fr fun a fr => ?_
    refine e_ ?_
    refine wp_ret ?_
    injection h with h
    subst h
    refine ret1 fr rfl rfl ?_
    exact ⟨rfl, fr.vok (d := 4) rfl, S.mask []⟩
  ·refine wl_run o_ 10 rfl fr fun a fr => ?_
   refine e_ ?_
   refine wp_ret ?_
   injection h with h
   subst h
   refine ret1 fr rfl rfl ?_
   exact ⟨rfl, fr.vok (d := 4) rfl, S.mask []⟩
 exact (key w rfl (Sat.start w)).mono fun e w' ⟨h1, h2, h3⟩ => ⟨h1, h2, S.new h3.below⟩
theorem is_.walk (k : Nat) (A0 : Option Addr) (c0 n0 : Nat) (l0 : List Int) (a1 : Int) (a2 : Int) {w0 w : World} {R : List Asn} (m0 : n0 ≤ c0 ∧ c0 ≤ maxLen) (v1 : (Lit.int .i64 a1).wf = true) (v2 : (Lit.int .i64 a2).wf = true) (S : Sat w0 w (rowA .u32 31 A0 c0 n0 l0 :: R)) {r : List Int} (h : is_.f k n0 l0 a1 a2 = some r) :
  Calls Tryz.prog 101 #[(.slice A0 n0 c0), (.int .i64 a1), (.int .i64 a2)] w fun e w' => e = .returned (.tuple #[]) ∧ Sat w0 w' (rowA .u32 31 A0 c0 n0 r :: R) := by
 unfold is_.f at h
 refine calls_start (N := 49) [(.slice A0 n0 c0), (.int .i64 a1), (.int .i64 a2)] Tryz.func101 rfl rfl rfl (vok_c (vok_sl m0) (vok_c v1 (vok_c v2 rfl))) fun a fr => ?_
 refine r_ rfl ?_
 refine wl_run o_ 3 rfl fr fun a fr => ?_
 refine e_ ?_
 refine wp_block ?_
 refine cw_loop (fun k1 a w => ∃ l1 : List Int, ∃ x2 : Int, Fr 49 a [(0, (.slice A0 n0 c0)), (1, (.int .i64 a1)), (2, (.int .i64 a2)), (6, (.int .i64 x2))] ∧ Sat w0 w (rowA .u32 31 A0 c0 n0 l1 :: R) ∧ (is_.l1 k1 a2 a1 n0 l1 x2) = some r) k ⟨l0, (IntKind.wrap .i64 (a1 + (1 : Int))), fr.sub ⟨rfl, rfl, rfl, rfl, trivial⟩, S, h⟩ ?_ ?_
 ·rintro a w ⟨l1, x2, -, -, h⟩
  simp only [is_.l1] at h
  cases h
 ·rintro k1 a w ⟨l1, x2, fr, S, h⟩
  rw [is_.l1] at h
  refine r_ rfl ?_
  refine wl_run o_ 3 rfl fr fun a fr => ?_
  refine e_ ?_
  refine cw_if fr rfl h (fun h => ?_) (fun h => ?_)
  ·refine wp_skip ?_
   with_reducible refine then_n ?_
   refine cw_cut (fun a w => ∃ l5 : List Int, Fr 49 a [(0, (.slice A0 n0 c0)), (1, (.int .i64 a1)), (2, (.int .i64 a2)), (6, (.int .i64 x2))] ∧ Sat w0 w (rowA .u32 31 A0 c0 n0 l5 :: R) ∧ (is_.j1 (is_.l1 k1 a2 a1 n0) x2 l5) = some r) ?_ ?_
   ·refine wp_block ?_
    refine r_ rfl ?_
    refine wl_run o_ 2 rfl fr fun a fr => ?_
    refine e_ ?_
    refine wp_block ?_
    refine cw_loop (fun k2 a w => ∃ l6 : List Int, ∃ x7 : Int, Fr 49 a [(0, (.slice A0 n0 c0)), (1, (.int .i64 a1)), (2, (.int .i64 a2)), (6, (.int .i64 x2)), (7, (.int .i64 x7))] ∧ Sat w0 w (rowA .u32 31 A0 c0 n0 l6 :: R) ∧ (is_.l2 k2 (is_.l1 k1 a2 a1 n0) a1 n0 x2 l6 x7) = some r) k1 ⟨l1, x2, fr.sub ⟨rfl, rfl, rfl, rfl, rfl, trivial⟩, S, h⟩ ?_ ?_
    ·rintro a w ⟨l6, x7, -, -, h⟩
     simp only [is_.l2] at h
     cases h
    ·rintro k2 a w ⟨l6, x7, fr, S, h⟩
     rw [is_.l2] at h
     refine q_ rfl ?_
     refine wp_region_sl [u_ 0 16, u_ 1 17, u_ 2 18, u_ 3 19, u_ 4 20, u_ 5 21, u_ 6 22, u_ 7 23, u_ 8 24, u_ 9 25, u_ 10 26, u_ 11 27, u_ 12 28, .one (13, false, some 29), u_ 14 30]
      [m_ 16 7 3,
  m_ 17 1 3,
  .one ⟨true, some 18, (.binOp .gtr 3 (.tmp 16) (.tmp 17) 3), 4, none⟩,
  m_ 19 18 4,
  .one ⟨true, some 20, (.move (.tmp 0)), 72, some (19, true)⟩,
  .one ⟨true, some 21, (.move (.tmp 7)), 3, some (19, true)⟩,
  .one ⟨true, some 22, (.indexAddr 72 (.tmp 20) (.tmp 21)), 0, some (19, true)⟩,
  .one ⟨true, some 23, (.load 31 (.tmp 22)), 31, some (19, true)⟩,
  .one ⟨true, some 24, (.move (.tmp 0)), 72, some (19, true)⟩,
  .one ⟨true, some 25, (.move (.tmp 7)), 3, some (19, true)⟩,
  .one ⟨true, some 26, (.binOp .sub 3 (.tmp 25) (.const (.int .i64 1)) 3), 3, some (19, true)⟩,
  .one ⟨true, some 27, (.indexAddr 72 (.tmp 24) (.tmp 26)), 0, some (19, true)⟩,
  .one ⟨true, some 28, (.load 31 (.tmp 27)), 31, some (19, true)⟩,
  .one ⟨false, some 29, (.call { callee := (.value (.func 107)), args := #[(.tmp 23), (.tmp 28)], argTypes := #[31, 31] }), 4, some (19, true)⟩,
  .one ⟨true, some 30, (.pick (.tmp 19) (.tmp 29) (.const (.bool false))), 4, none⟩]
      (fun w => Sat w0 w (rowA .u32 31 A0 c0 n0 l6 :: R)) rfl (by kernel_rfl) (by kernel_rfl) (S.drew.mask [true]) ?_
     have S := S.drew
     refine sl_run o_ 4 rfl fr fun a fr => ?_
     refine sl_split 19 fr rfl h (fun fr h => ?_) (fun fr h => ?_)
     ·refine sl_run o_ 2 rfl fr fun a fr => ?_
      obtain ⟨hc, h⟩ := ifs h
      refine sl_ld o_ (fun _ S => Sat.rowAt S 0 rfl) fr rfl rfl rfl rfl rfl rfl rfl rfl rfl rfl rfl rfl rfl rfl rfl rfl (Sat.rowLen S 0 rfl) rfl (Sat.rowHb S 0 rfl hc) (Sat.mask S [true]) fun a fr => ?_
      refine sl_run o_ 3 rfl fr fun a fr => ?_
      obtain ⟨hc, h⟩ := ifs h
      refine sl_ld o_ (fun _ S => Sat.rowAt S 0 rfl) fr rfl rfl rfl rfl rfl rfl rfl rfl rfl rfl rfl rfl rfl rfl rfl rfl (Sat.rowLen S 0 rfl) rfl (Sat.rowHb S 0 rfl hc) (Sat.mask S [true]) fun a fr => ?_
      obtain ⟨r10, hr, h⟩ := bnd h
      refine sl_call fr rfl rfl rfl rfl rfl en107 (Less_uint32.walk (List.getD l6 (Int.toNat x7) 0) (List.getD l6 (Int.toNat (IntKind.wrap .i64 (x7 - (1 : Int)))) 0) (fr.int (d := 23) rfl) (fr.int (d := 28) rfl) S hr) ?_
      rintro _ w ⟨rfl, hv, S⟩
      refine ⟨_, rfl, hv, (Sat.mask S [true]), fun a fr => ?_⟩
      refine sl_run o_ 1 rfl fr fun a fr => ?_
      refine sl_end ?_
      with_reducible refine then_n ?_
      refine cw_if fr rfl h (fun h => ?_) (fun h => ?_)
      ·refine wp_skip ?_
       refine q_ rfl ?_
       refine wp_block ?_
       refine wp_region_ph [2, 3, 4] [14, 15, 16, 17] [u_ 2 35, u_ 3 36, u_ 4 37] [m_ 35 0 72,
  m_ 36 7 3,
  .one ⟨true, some 37, (.binOp .sub 3 (.tmp 36) (.const (.int .i64 1)) 3), 3, none⟩] [u_ 0 33, u_ 1 34, u_ 5 38, u_ 6 39, u_ 7 40, u_ 8 41, u_ 9 42, u_ 10 43, u_ 11 44, u_ 12 45, u_ 13 46]
        [m_ 33 0 72,
  m_ 34 7 3,
  m_ 38 0 72,
  m_ 39 7 3,
  .one ⟨true, some 40, (.binOp .sub 3 (.tmp 39) (.const (.int .i64 1)) 3), 3, none⟩,
  i_ 41 72 38 40,
  l_ 42 31 41,
  m_ 43 0 72,
  m_ 44 7 3,
  i_ 45 72 43 44,
  l_ 46 31 45]
        [u_ 14 47, .one (15, false, none), u_ 16 48, .one (17, false, none)]
        [i_ 47 72 33 34,
  .one ⟨false, none, (.store 31 (.tmp 47) (.tmp 42)), 0, none⟩,
  i_ 48 72 35 37,
  .one ⟨false, none, (.store 31 (.tmp 48) (.tmp 46)), 0, none⟩]
        (fun w => Sat w0 w (rowA .u32 31 A0 c0 n0 l6 :: R)) (fun w => Sat w0 w (R)) rfl (by kernel_rfl) (by kernel_rfl) (by kernel_rfl) (by kernel_rfl) (S.drew.mask [true]) (fun _ S => S.mask [false]) ?_
       have S := S.drew
       refine sl_run o_ 3 rfl fr fun a fr => ?_
       refine sl_next ?_
       refine sl_run o_ 5 rfl fr fun a fr => ?_
       obtain ⟨hc, h⟩ := ifs h
       refine sl_ld o_ (fun _ S => Sat.rowAt S 0 rfl) fr rfl rfl rfl rfl rfl rfl rfl rfl rfl rfl rfl rfl rfl rfl rfl rfl (Sat.rowLen S 0 rfl) rfl (Sat.rowHb S 0 rfl hc) (Sat.mask S [true]) fun a fr => ?_
       refine sl_run o_ 2 rfl fr fun a fr => ?_
       obtain ⟨hc, h⟩ := ifs h
       refine sl_ld o_ (fun _ S => Sat.rowAt S 0 rfl) fr rfl rfl rfl rfl rfl rfl rfl rfl rfl rfl rfl rfl rfl rfl rfl rfl (Sat.rowLen S 0 rfl) rfl (Sat.rowHb S 0 rfl hc) (Sat.mask S [true]) fun a fr => ?_
       refine sl_next ?_
       obtain ⟨hc, h⟩ := ifs h
       have hp47 := hc
       refine sl_pe o_ (Sat.rowAt S 0 rfl) fr rfl rfl rfl rfl rfl rfl rfl rfl rfl (Sat.rowLen S 0 rfl) (Sat.rowHb S 0 rfl hc) fun a fr => ?_
       refine sl_str o_ fr rfl rfl rfl rfl rfl rfl rfl S hp47 ?_
       intro w S
       refine ⟨(Sat.mask S [false]), ?_⟩
       obtain ⟨hc, h⟩ := ifs h
       have hp48 := hc
       refine sl_pe o_ (Sat.rowAt S 0 rfl) fr rfl rfl rfl rfl rfl rfl rfl rfl rfl (Sat.rowLen S 0 rfl) (Sat.rowHb S 0 rfl hc) fun a fr => ?_
       refine sl_str o_ fr rfl rfl rfl rfl rfl rfl rfl S hp48 ?_
       intro w S
       refine ⟨(Sat.mask S [false]), ?_⟩
       refine sl_end ?_
       refine blk_n ?_
       refine r_ rfl ?_
       refine wl_run o_ 3 rfl fr fun a fr => ?_
       refine wpList_nil ?_
       exact ⟨(List.set (List.set l6 (Int.toNat x7) (List.getD l6 (Int.toNat (IntKind.wrap .i64 (x7 - (1 : Int)))) 0)) (Int.toNat (IntKind.wrap .i64 (x7 - (1 : Int)))) (List.getD l6 (Int.toNat x7) 0)), (IntKind.wrap .i64 (x7 - (1 : Int))), fr.sub ⟨rfl, rfl, rfl, rfl, rfl, trivial⟩, S, h⟩
      ·refine wp_exit ?_
       refine then_e ?_
       refine then_e ?_
       refine blk_y ?_
       refine blk_n ?_
       exact ⟨l6, fr.sub ⟨rfl, rfl, rfl, rfl, trivial⟩, S, h⟩
     ·refine sl_run o_ 9 rfl fr fun a fr => ?_
      refine sl_no fr rfl (Sat.mask S [true]) rfl rfl fun a fr => ?_
      refine sl_run o_ 1 rfl fr fun a fr => ?_
      refine sl_end ?_
      with_reducible refine then_n ?_
      refine cw_f fr rfl ?_
      refine wp_exit ?_
      refine then_e ?_
      refine then_e ?_
      refine blk_y ?_
      refine blk_n ?_
      exact ⟨l6, fr.sub ⟨rfl, rfl, rfl, rfl, trivial⟩, S, h⟩
   ·rintro a w ⟨l5, fr, S, h⟩
    rw [is_.j1] at h
    refine wp_region_lit ?_
    refine wl_run o_ 3 rfl fr fun a fr => ?_
    refine wpList_nil ?_
    exact ⟨l5, (IntKind.wrap .i64 (x2 + (1 : Int))), fr.sub ⟨rfl, rfl, rfl, rfl, trivial⟩, S, h⟩
  ·refine wp_exit ?_
   refine then_e ?_
   refine then_e ?_
   refine blk_y ?_
   refine end_ret ?_
   injection h with h
   subst h
   refine ret0 fr rfl ?_
   exact ⟨rfl, S.mask [true]⟩
theorem sd_.walk (k : Nat) (A0 : Option Addr) (c0 n0 : Nat) (l0 : List Int) (a1 : Int) (a2 : Int) (a3 : Int) {w0 w : World} {R : List Asn} (m0 : n0 ≤ c0 ∧ c0 ≤ maxLen) (v1 : (Lit.int .i64 a1).wf = true) (v2 : (Lit.int .i64 a2).wf = true) (v3 : (Lit.int .i64 a3).wf = true) (S : Sat w0 w (rowA .u32 31 A0 c0 n0 l0 :: R)) {r : List Int} (h : sd_.f k n0 l0 a1 a2 a3 = some r) :
  Calls Tryz.prog 119 #[(.slice A0 n0 c0), (.int .i64 a1), (.int .i64 a2), (.int .i64 a3)] w fun e w' => e = .returned (.tuple #[]) ∧ Sat w0 w' (rowA .u32 31 A0 c0 n0 r :: R) := by
 unfold sd_.f at h
 refine calls_start (N := 76) [(.slice A0 n0 c0), (.int .i64 a1), (.int .i64 a2), (.int .i64 a3)] Tryz.func119 rfl rfl rfl (vok_c (vok_sl m0) (vok_c v1 (vok_c v2 (vok_c v3 rfl)))) fun a fr => ?_
 refine r_ rfl ?_
 refine wl_run o_ 2 rfl fr fun a fr => ?_
 refine e_ ?_
 refine wp_block ?_
 refine cw_loop (fun k1 a w => ∃ l1 : List Int, ∃ x2 : Int, Fr 76 a [(0, (.slice A0 n0 c0)), (2, (.int .i64 a2)), (3, (.int .i64 a3)), (8, (.int .i64 x2))] ∧ Sat w0 w (rowA .u32 31 A0 c0 n0 l1 :: R) ∧ (sd_.l1 k1 a2 a3 n0 l1 x2) = some r) k ⟨l0, a1, fr.sub ⟨rfl, rfl, rfl, rfl, trivial⟩, S, h⟩ ?_ ?_
 ·rintro a w ⟨l1, x2, -, -, h⟩
  simp only [sd_.l1] at h
  cases h
 ·rintro k1 a w ⟨l1, x2, fr, S, h⟩
  rw [sd_.l1] at h
  refine wp_block ?_
  refine r_ rfl ?_
  refine wl_run o_ 4 rfl fr fun a fr => ?_
  obtain ⟨y5, hx, h⟩ := lt_h h
  have fr := fr.spell (d := 9) rfl (congrArg (Value.int .i64) hx)
  refine er_ rfl rfl ?_
  refine wl_run o_ 3 rfl fr fun a fr => ?_
  refine e_ ?_
  refine cw_if fr rfl h (fun h => ?_) (fun h => ?_)
  ·refine wp_exit ?_
   refine then_e ?_
   refine blk_e rfl ?_
   refine then_e ?_
   refine blk_y ?_
   refine end_ret ?_
   injection h with h
   subst h
   refine ret0 fr rfl ?_
   exact ⟨rfl, S.mask [true]⟩
  ·refine wp_skip ?_
   with_reducible refine then_n ?_
   refine cw_cut (fun a w => ∃ x6 : Int, Fr 76 a [(0, (.slice A0 n0 c0)), (2, (.int .i64 a2)), (3, (.int .i64 a3)), (8, (.int .i64 x2)), (9, (.int .i64 x6))] ∧ Sat w0 w (rowA .u32 31 A0 c0 n0 l1 :: R) ∧ (sd_.j1 (sd_.l1 k1 a2 a3 n0) a3 x2 n0 l1 x6) = some r) ?_ ?_
   ·refine q_ rfl ?_
    refine wp_region_sl [u_ 0 17, u_ 1 18, u_ 2 19, u_ 3 20, u_ 4 21, u_ 5 22, u_ 6 23, u_ 7 24, u_ 8 25, u_ 9 26, u_ 10 27, u_ 11 28, u_ 12 29, u_ 13 30, u_ 14 31, u_ 15 32, u_ 16 33, u_ 17 34, .one (18, false, some 35), u_ 19 36]
     [m_ 17 9 3,
  .one ⟨true, some 18, (.binOp .add 3 (.tmp 17) (.const (.int .i64 1)) 3), 3, none⟩,
  m_ 19 2 3,
  .one ⟨true, some 20, (.binOp .lss 3 (.tmp 18) (.tmp 19) 3), 4, none⟩,
  m_ 21 20 4,
  .one ⟨true, some 22, (.move (.tmp 0)), 72, some (21, true)⟩,
  .one ⟨true, some 23, (.move (.tmp 3)), 3, some (21, true)⟩,
  .one ⟨true, some 24, (.move (.tmp 9)), 3, some (21, true)⟩,
  .one ⟨true, some 25, (.binOp .add 3 (.tmp 23) (.tmp 24) 3), 3, some (21, true)⟩,
  .one ⟨true, some 26, (.indexAddr 72 (.tmp 22) (.tmp 25)), 0, some (21, true)⟩,
  .one ⟨true, some 27, (.load 31 (.tmp 26)), 31, some (21, true)⟩,
  .one ⟨true, some 28, (.move (.tmp 0)), 72, some (21, true)⟩,
  .one ⟨true, some 29, (.move (.tmp 3)), 3, some (21, true)⟩,
  .one ⟨true, some 30, (.move (.tmp 9)), 3, some (21, true)⟩,
  .one ⟨true, some 31, (.binOp .add 3 (.tmp 29) (.tmp 30) 3), 3, some (21, true)⟩,
  .one ⟨true, some 32, (.binOp .add 3 (.tmp 31) (.const (.int .i64 1)) 3), 3, some (21, true)⟩,
  .one ⟨true, some 33, (.indexAddr 72 (.tmp 28) (.tmp 32)), 0, some (21, true)⟩,
  .one ⟨true, some 34, (.load 31 (.tmp 33)), 31, some (21, true)⟩,
  .one ⟨false, some 35, (.call { callee := (.value (.func 107)), args := #[(.tmp 27), (.tmp 34)], argTypes := #[31, 31] }), 4, some (21, true)⟩,
  .one ⟨true, some 36, (.pick (.tmp 21) (.tmp 35) (.const (.bool false))), 4, none⟩]
     (fun w => Sat w0 w (rowA .u32 31 A0 c0 n0 l1 :: R)) rfl (by kernel_rfl) (by kernel_rfl) (S.drew.mask [true]) ?_
    have S := S.drew
    refine sl_run o_ 5 rfl fr fun a fr => ?_
    refine sl_split 21 fr rfl h (fun fr h => ?_) (fun fr h => ?_)
    ·refine sl_run o_ 4 rfl fr fun a fr => ?_
     obtain ⟨hc, h⟩ := ifs h
     refine sl_ld o_ (fun _ S => Sat.rowAt S 0 rfl) fr rfl rfl rfl rfl rfl rfl rfl rfl rfl rfl rfl rfl rfl rfl rfl rfl (Sat.rowLen S 0 rfl) rfl (Sat.rowHb S 0 rfl hc) (Sat.mask S [true]) fun a fr => ?_
     refine sl_run o_ 5 rfl fr fun a fr => ?_
     obtain ⟨hc, h⟩ := ifs h
     refine sl_ld o_ (fun _ S => Sat.rowAt S 0 rfl) fr rfl rfl rfl rfl rfl rfl rfl rfl rfl rfl rfl rfl rfl rfl rfl rfl (Sat.rowLen S 0 rfl) rfl (Sat.rowHb S 0 rfl hc) (Sat.mask S [true]) fun a fr => ?_
     obtain ⟨r8, hr, h⟩ := bnd h
     refine sl_call fr rfl rfl rfl rfl rfl en107 (Less_uint32.walk (List.getD l1 (Int.toNat (IntKind.wrap .i64 (a3 + y5))) 0) (List.getD l1 (Int.toNat (IntKind.wrap .i64 ((IntKind.wrap .i64 (a3 + y5)) + (1 : Int)))) 0) (fr.int (d := 27) rfl) (fr.int (d := 34) rfl) S hr) ?_
     rintro _ w ⟨rfl, hv, S⟩
     refine ⟨_, rfl, hv, (Sat.mask S [true]), fun a fr => ?_⟩
     refine sl_run o_ 1 rfl fr fun a fr => ?_
     refine sl_end ?_
     with_reducible refine then_n ?_
     refine cw_if fr rfl h (fun h => ?_) (fun h => ?_)
     ·refine wp_region_lit ?_
      refine wl_run o_ 3 rfl fr fun a fr => ?_
      refine wpList_nil ?_
      exact ⟨(IntKind.wrap .i64 (y5 + (1 : Int))), fr.sub ⟨rfl, rfl, rfl, rfl, rfl, trivial⟩, S, h⟩
     ·refine wp_skip ?_
      exact ⟨y5, fr.sub ⟨rfl, rfl, rfl, rfl, rfl, trivial⟩, S, h⟩
    ·refine sl_run o_ 13 rfl fr fun a fr => ?_
     refine sl_no fr rfl (Sat.mask S [true]) rfl rfl fun a fr => ?_
     refine sl_run o_ 1 rfl fr fun a fr => ?_
     refine sl_end ?_
     with_reducible refine then_n ?_
     refine cw_f fr rfl ?_
     refine wp_skip ?_
     exact ⟨y5, fr.sub ⟨rfl, rfl, rfl, rfl, rfl, trivial⟩, S, h⟩
   ·rintro a w ⟨x6, fr, S, h⟩
    rw [sd_.j1] at h
    refine q_ rfl ?_
    refine wp_region_sl [u_ 0 39, u_ 1 40, u_ 2 41, u_ 3 42, u_ 4 43, u_ 5 44, u_ 6 45, u_ 7 46, u_ 8 47, u_ 9 48, u_ 10 49, u_ 11 50, .one (12, false, some 51), u_ 13 52]
     [m_ 39 0 72,
  m_ 40 3 3,
  m_ 41 8 3,
  .one ⟨true, some 42, (.binOp .add 3 (.tmp 40) (.tmp 41) 3), 3, none⟩,
  i_ 43 72 39 42,
  l_ 44 31 43,
  m_ 45 0 72,
  m_ 46 3 3,
  m_ 47 9 3,
  .one ⟨true, some 48, (.binOp .add 3 (.tmp 46) (.tmp 47) 3), 3, none⟩,
  i_ 49 72 45 48,
  l_ 50 31 49,
  .one ⟨false, some 51, (.call { callee := (.value (.func 107)), args := #[(.tmp 44), (.tmp 50)], argTypes := #[31, 31] }), 4, none⟩,
  .one ⟨true, some 52, (.unOp .not 4 (.tmp 51)), 4, none⟩]
     (fun w => Sat w0 w (rowA .u32 31 A0 c0 n0 l1 :: R)) rfl (by kernel_rfl) (by kernel_rfl) (S.drew.mask [true]) ?_
    have S := S.drew
    refine sl_run o_ 4 rfl fr fun a fr => ?_
    obtain ⟨hc, h⟩ := ifs h
    refine sl_ld o_ (fun _ S => Sat.rowAt S 0 rfl) fr rfl rfl rfl rfl rfl rfl rfl rfl rfl rfl rfl rfl rfl rfl rfl rfl (Sat.rowLen S 0 rfl) rfl (Sat.rowHb S 0 rfl hc) (Sat.mask S [true]) fun a fr => ?_
    refine sl_run o_ 4 rfl fr fun a fr => ?_
    obtain ⟨hc, h⟩ := ifs h
    refine sl_ld o_ (fun _ S => Sat.rowAt S 0 rfl) fr rfl rfl rfl rfl rfl rfl rfl rfl rfl rfl rfl rfl rfl rfl rfl rfl (Sat.rowLen S 0 rfl) rfl (Sat.rowHb S 0 rfl hc) (Sat.mask S [true]) fun a fr => ?_
    obtain ⟨r7, hr, h⟩ := bnd h
    refine sl_call fr rfl rfl rfl rfl rfl en107 (Less_uint32.walk (List.getD l1 (Int.toNat (IntKind.wrap .i64 (a3 + x2))) 0) (List.getD l1 (Int.toNat (IntKind.wrap .i64 (a3 + x6))) 0) (fr.int (d := 44) rfl) (fr.int (d := 50) rfl) S hr) ?_
    rintro _ w ⟨rfl, hv, S⟩
    refine ⟨_, rfl, hv, (Sat.mask S [true]), fun a fr => ?_⟩
    refine sl_run o_ 1 rfl fr fun a fr => ?_
    refine sl_end ?_
    with_reducible refine then_n ?_
    refine cw_if fr rfl h (fun h => ?_) (fun h => ?_)
    ·refine wp_ret ?_
     refine then_r ?_
     refine blk_r ?_
     refine then_r ?_
     refine blk_r ?_
     injection h with h
     subst h
     refine ret0 fr rfl ?_
     exact ⟨rfl, S.mask [true]⟩
    ·refine wp_skip ?_
     refine q_ rfl ?_
     refine wp_region_ph [4, 5, 6, 7] [20, 21, 22, 23] [u_ 4 57, u_ 5 58, u_ 6 59, u_ 7 60] [m_ 57 0 72,
  m_ 58 3 3,
  m_ 59 9 3,
  .one ⟨true, some 60, (.binOp .add 3 (.tmp 58) (.tmp 59) 3), 3, none⟩] [u_ 0 53, u_ 1 54, u_ 2 55, u_ 3 56, u_ 8 61, u_ 9 62, u_ 10 63, u_ 11 64, u_ 12 65, u_ 13 66, u_ 14 67, u_ 15 68, u_ 16 69, u_ 17 70, u_ 18 71, u_ 19 72]
      [m_ 53 0 72,
  m_ 54 3 3,
  m_ 55 8 3,
  .one ⟨true, some 56, (.binOp .add 3 (.tmp 54) (.tmp 55) 3), 3, none⟩,
  m_ 61 0 72,
  m_ 62 3 3,
  m_ 63 9 3,
  .one ⟨true, some 64, (.binOp .add 3 (.tmp 62) (.tmp 63) 3), 3, none⟩,
  i_ 65 72 61 64,
  l_ 66 31 65,
  m_ 67 0 72,
  m_ 68 3 3,
  m_ 69 8 3,
  .one ⟨true, some 70, (.binOp .add 3 (.tmp 68) (.tmp 69) 3), 3, none⟩,
  i_ 71 72 67 70,
  l_ 72 31 71]
      [u_ 20 73, .one (21, false, none), u_ 22 74, .one (23, false, none)]
      [i_ 73 72 53 56,
  .one ⟨false, none, (.store 31 (.tmp 73) (.tmp 66)), 0, none⟩,
  i_ 74 72 57 60,
  .one ⟨false, none, (.store 31 (.tmp 74) (.tmp 72)), 0, none⟩]
      (fun w => Sat w0 w (rowA .u32 31 A0 c0 n0 l1 :: R)) (fun w => Sat w0 w (R)) rfl (by kernel_rfl) (by kernel_rfl) (by kernel_rfl) (by kernel_rfl) (S.drew.mask [true]) (fun _ S => S.mask [false]) ?_
     have S := S.drew
     refine sl_run o_ 4 rfl fr fun a fr => ?_
     refine sl_next ?_
     refine sl_run o_ 8 rfl fr fun a fr => ?_
     obtain ⟨hc, h⟩ := ifs h
     refine sl_ld o_ (fun _ S => Sat.rowAt S 0 rfl) fr rfl rfl rfl rfl rfl rfl rfl rfl rfl rfl rfl rfl rfl rfl rfl rfl (Sat.rowLen S 0 rfl) rfl (Sat.rowHb S 0 rfl hc) (Sat.mask S [true]) fun a fr => ?_
     refine sl_run o_ 4 rfl fr fun a fr => ?_
     obtain ⟨hc, h⟩ := ifs h
     refine sl_ld o_ (fun _ S => Sat.rowAt S 0 rfl) fr rfl rfl rfl rfl rfl rfl rfl rfl rfl rfl rfl rfl rfl rfl rfl rfl (Sat.rowLen S 0 rfl) rfl (Sat.rowHb S 0 rfl hc) (Sat.mask S [true]) fun a fr => ?_
     refine sl_next ?_
     obtain ⟨hc, h⟩ := ifs h
     have hp73 := hc
     refine sl_pe o_ (Sat.rowAt S 0 rfl) fr rfl rfl rfl rfl rfl rfl rfl rfl rfl (Sat.rowLen S 0 rfl) (Sat.rowHb S 0 rfl hc) fun a fr => ?_
     refine sl_str o_ fr rfl rfl rfl rfl rfl rfl rfl S hp73 ?_
     intro w S
     refine ⟨(Sat.mask S [false]), ?_⟩
     obtain ⟨hc, h⟩ := ifs h
     have hp74 := hc
     refine sl_pe o_ (Sat.rowAt S 0 rfl) fr rfl rfl rfl rfl rfl rfl rfl rfl rfl (Sat.rowLen S 0 rfl) (Sat.rowHb S 0 rfl hc) fun a fr => ?_
     refine sl_str o_ fr rfl rfl rfl rfl rfl rfl rfl S hp74 ?_
     intro w S
     refine ⟨(Sat.mask S [false]), ?_⟩
     refine sl_end ?_
     refine r_ rfl ?_
     refine wl_run o_ 2 rfl fr fun a fr => ?_
     refine wpList_nil ?_
     refine blk_n ?_
     exact ⟨(List.set (List.set l1 (Int.toNat (IntKind.wrap .i64 (a3 + x2))) (List.getD l1 (Int.toNat (IntKind.wrap .i64 (a3 + x6))) 0)) (Int.toNat (IntKind.wrap .i64 (a3 + x6))) (List.getD l1 (Int.toNat (IntKind.wrap .i64 (a3 + x2))) 0)), x6, fr.sub ⟨rfl, rfl, rfl, rfl, trivial⟩, S, h⟩
theorem hs_.walk (k : Nat) (A0 : Option Addr) (c0 n0 : Nat) (l0 : List Int) (a1 : Int) (a2 : Int) {w0 w : World} {R : List Asn} (m0 : n0 ≤ c0 ∧ c0 ≤ maxLen) (v1 : (Lit.int .i64 a1).wf = true) (v2 : (Lit.int .i64 a2).wf = true) (S : Sat w0 w (rowA .u32 31 A0 c0 n0 l0 :: R)) {r : List Int} (h : hs_.f k n0 l0 a1 a2 = some r) :
  Calls Tryz.prog 102 #[(.slice A0 n0 c0), (.int .i64 a1), (.int .i64 a2)] w fun e w' => e = .returned (.tuple #[]) ∧ Sat w0 w' (rowA .u32 31 A0 c0 n0 r :: R) := by
 unfold hs_.f at h
 refine calls_start (N := 56) [(.slice A0 n0 c0), (.int .i64 a1), (.int .i64 a2)] Tryz.func102 rfl rfl rfl (vok_c (vok_sl m0) (vok_c v1 (vok_c v2 rfl))) fun a fr => ?_
 refine r_ rfl ?_
 refine wl_run o_ 2 rfl fr fun a fr => ?_
 refine er_ rfl rfl ?_
 refine wl_run o_ 1 rfl fr fun a fr => ?_
 refine er_ rfl rfl ?_
 refine wl_run o_ 4 rfl fr fun a fr => ?_
 refine er_ rfl rfl ?_
 refine wl_run o_ 4 rfl fr fun a fr => ?_
 obtain ⟨y1, hx, h⟩ := lt_h h
 have fr := fr.spell (d := 9) rfl (congrArg (Value.int .i64) hx)
 refine e_ ?_
 refine wp_block ?_
 refine cw_loop (fun k1 a w => ∃ l2 : List Int, ∃ x3 : Int, Fr 56 a [(0, (.slice A0 n0 c0)), (6, (.int .i64 a1)), (7, (.int .i64 (0 : Int))), (8, (.int .i64 (IntKind.wrap .i64 (a2 - a1)))), (9, (.int .i64 x3))] ∧ Sat w0 w (rowA .u32 31 A0 c0 n0 l2 :: R) ∧ (hs_.l1 k1 n0 a2 a1 l2 x3) = some r) k ⟨l0, y1, fr.sub ⟨rfl, rfl, rfl, rfl, rfl, trivial⟩, S, h⟩ ?_ ?_
 ·rintro a w ⟨l2, x3, -, -, h⟩
  simp only [hs_.l1] at h
  cases h
 ·rintro k1 a w ⟨l2, x3, fr, S, h⟩
  rw [hs_.l1] at h
  refine r_ rfl ?_
  refine wl_run o_ 2 rfl fr fun a fr => ?_
  refine e_ ?_
  refine cw_if fr rfl h (fun h => ?_) (fun h => ?_)
  ·refine wp_skip ?_
   refine q_ rfl ?_
   refine wp_block ?_
   refine wp_region_lit ?_
   refine wl_run o_ 4 rfl fr fun a fr => ?_
   obtain ⟨r6, hr, h⟩ := bnd h
   refine wl_call fr rfl rfl rfl rfl en119 (sd_.walk k1 A0 c0 n0 l2 x3 (IntKind.wrap .i64 (a2 - a1)) a1 (fr.slice (d := 22) rfl) (fr.int (d := 23) rfl) (fr.int (d := 24) rfl) (fr.int (d := 25) rfl) S hr) ?_
   rintro _ w ⟨rfl, S⟩
   refine ⟨_, rfl, rfl, fun a fr => ?_⟩
   refine wpList_nil ?_
   refine blk_n ?_
   refine r_ rfl ?_
   refine wl_run o_ 3 rfl fr fun a fr => ?_
   refine wpList_nil ?_
   exact ⟨r6, (IntKind.wrap .i64 (x3 - (1 : Int))), fr.sub ⟨rfl, rfl, rfl, rfl, rfl, trivial⟩, S, h⟩
  ·refine wp_exit ?_
   refine then_e ?_
   refine then_e ?_
   refine blk_y ?_
   refine r_ rfl ?_
   refine wl_run o_ 3 rfl fr fun a fr => ?_
   obtain ⟨y7, hx, h⟩ := lt_h h
   have fr := fr.spell (d := 10) rfl (congrArg (Value.int .i64) hx)
   refine e_ ?_
   refine wp_block ?_
   refine cw_loop (fun k2 a w => ∃ l8 : List Int, ∃ x9 : Int, Fr 56 a [(0, (.slice A0 n0 c0)), (6, (.int .i64 a1)), (7, (.int .i64 (0 : Int))), (10, (.int .i64 x9))] ∧ Sat w0 w (rowA .u32 31 A0 c0 n0 l8 :: R) ∧ (hs_.l2 k2 a1 n0 l8 x9) = some r) k1 ⟨l2, y7, fr.sub ⟨rfl, rfl, rfl, rfl, trivial⟩, S, h⟩ ?_ ?_
   ·rintro a w ⟨l8, x9, -, -, h⟩
    simp only [hs_.l2] at h
    cases h
   ·rintro k2 a w ⟨l8, x9, fr, S, h⟩
    rw [hs_.l2] at h
    refine r_ rfl ?_
    refine wl_run o_ 2 rfl fr fun a fr => ?_
    refine e_ ?_
    refine cw_if fr rfl h (fun h => ?_) (fun h => ?_)
    ·refine wp_skip ?_
     refine q_ rfl ?_
     refine wp_block ?_
     refine q_ rfl ?_
     refine wp_region_ph [2, 3, 4, 5] [16, 17, 18, 19] [u_ 2 35, u_ 3 36, u_ 4 37, u_ 5 38] [m_ 35 0 72,
  m_ 36 6 3,
  m_ 37 10 3,
  .one ⟨true, some 38, (.binOp .add 3 (.tmp 36) (.tmp 37) 3), 3, none⟩] [u_ 0 33, u_ 1 34, u_ 6 39, u_ 7 40, u_ 8 41, u_ 9 42, u_ 10 43, u_ 11 44, u_ 12 45, u_ 13 46, u_ 14 47, u_ 15 48]
      [m_ 33 0 72,
  m_ 34 6 3,
  m_ 39 0 72,
  m_ 40 6 3,
  m_ 41 10 3,
  .one ⟨true, some 42, (.binOp .add 3 (.tmp 40) (.tmp 41) 3), 3, none⟩,
  i_ 43 72 39 42,
  l_ 44 31 43,
  m_ 45 0 72,
  m_ 46 6 3,
  i_ 47 72 45 46,
  l_ 48 31 47]
      [u_ 16 49, .one (17, false, none), u_ 18 50, .one (19, false, none)]
      [i_ 49 72 33 34,
  .one ⟨false, none, (.store 31 (.tmp 49) (.tmp 44)), 0, none⟩,
  i_ 50 72 35 38,
  .one ⟨false, none, (.store 31 (.tmp 50) (.tmp 48)), 0, none⟩]
      (fun w => Sat w0 w (rowA .u32 31 A0 c0 n0 l8 :: R)) (fun w => Sat w0 w (R)) rfl (by kernel_rfl) (by kernel_rfl) (by kernel_rfl) (by kernel_rfl) (S.drew.mask [true]) (fun _ S => S.mask [false]) ?_
     have S := S.drew
     refine sl_run o_ 4 rfl fr fun a fr => ?_
     refine sl_next ?_
     refine sl_run o_ 6 rfl fr fun a fr => ?_
     obtain ⟨hc, h⟩ := ifs h
     refine sl_ld o_ (fun _ S => Sat.rowAt S 0 rfl) fr rfl rfl rfl rfl rfl rfl rfl rfl rfl rfl rfl rfl rfl rfl rfl rfl (Sat.rowLen S 0 rfl) rfl (Sat.rowHb S 0 rfl hc) (Sat.mask S [true]) fun a fr => ?_
     refine sl_run o_ 2 rfl fr fun a fr => ?_
     obtain ⟨hc, h⟩ := ifs h
     refine sl_ld o_ (fun _ S => Sat.rowAt S 0 rfl) fr rfl rfl rfl rfl rfl rfl rfl rfl rfl rfl rfl rfl rfl rfl rfl rfl (Sat.rowLen S 0 rfl) rfl (Sat.rowHb S 0 rfl hc) (Sat.mask S [true]) fun a fr => ?_
     refine sl_next ?_
     obtain ⟨hc, h⟩ := ifs h
     have hp49 := hc
     refine sl_pe o_ (Sat.rowAt S 0 rfl) fr rfl rfl rfl rfl rfl rfl rfl rfl rfl (Sat.rowLen S 0 rfl) (Sat.rowHb S 0 rfl hc) fun a fr => ?_
     refine sl_str o_ fr rfl rfl rfl rfl rfl rfl rfl S hp49 ?_
     intro w S
     refine ⟨(Sat.mask S [false]), ?_⟩
     obtain ⟨hc, h⟩ := ifs h
     have hp50 := hc
     refine sl_pe o_ (Sat.rowAt S 0 rfl) fr rfl rfl rfl rfl rfl rfl rfl rfl rfl (Sat.rowLen S 0 rfl) (Sat.rowHb S 0 rfl hc) fun a fr => ?_
     refine sl_str o_ fr rfl rfl rfl rfl rfl rfl rfl S hp50 ?_
     intro w S
     refine ⟨(Sat.mask S [false]), ?_⟩
     refine sl_end ?_
     refine r_ rfl ?_
     refine wl_run o_ 4 rfl fr fun a fr => ?_
     obtain ⟨r12, hr, h⟩ := bnd h
     refine wl_call fr rfl rfl rfl rfl en119 (sd_.walk k2 A0 c0 n0 (List.set (List.set l8 (Int.toNat a1) (List.getD l8 (Int.toNat (IntKind.wrap .i64 (a1 + x9))) 0)) (Int.toNat (IntKind.wrap .i64 (a1 + x9))) (List.getD l8 (Int.toNat a1) 0)) (0 : Int) x9 a1 (fr.slice (d := 51) rfl) (fr.int (d := 52) rfl) (fr.int (d := 53) rfl) (fr.int (d := 54) rfl) S hr) ?_
     rintro _ w ⟨rfl, S⟩
     refine ⟨_, rfl, rfl, fun a fr => ?_⟩
     refine wpList_nil ?_
     refine blk_n ?_
     refine r_ rfl ?_
     refine wl_run o_ 3 rfl fr fun a fr => ?_
     refine wpList_nil ?_
     exact ⟨r12, (IntKind.wrap .i64 (x9 - (1 : Int))), fr.sub ⟨rfl, rfl, rfl, rfl, trivial⟩, S, h⟩
    ·refine wp_exit ?_
     refine then_e ?_
     refine then_e ?_
     refine blk_y ?_
     refine end_ret ?_
     injection h with h
     subst h
     refine ret0 fr rfl ?_
     exact ⟨rfl, S.mask [true]⟩
theorem o2_.walk (A0 : Option Addr) (c0 : Nat) (l0 : List Int) (a1 : Int) (a2 : Int) (g903 : Nat) (x903 : Int) {w0 w : World} {R : List Asn} (rk0 : Rk .u32 w0 A0 l0) (m0 : l0.length ≤ c0 ∧ c0 ≤ maxLen) (v1 : (Lit.int .i64 a1).wf = true) (v2 : (Lit.int .i64 a2).wf = true) (S : Sat w0 w (stA 3 g903 [(.int .i64 x903)] :: R)) {r : Int × Int × Int} (h : o2_.f l0 a1 a2 x903 = some r) :
  Calls Tryz.prog 125 #[(.slice A0 (List.length l0) c0), (.int .i64 a1), (.int .i64 a2), (.pointer (some ⟨g903, 0, none⟩))] w fun e w' => e = .returned (.tuple #[(.int .i64 r.1), (.int .i64 r.2.1)]) ∧ vok (.tuple #[(.int .i64 r.1), (.int .i64 r.2.1)]) = true ∧ Sat w0 w' (stA 3 g903 [(.int .i64 r.2.2)] :: R) := by
 unfold o2_.f at h
 refine calls_start (N := 28) [(.slice A0 (List.length l0) c0), (.int .i64 a1), (.int .i64 a2), (.pointer (some ⟨g903, 0, none⟩))] Tryz.func125 rfl rfl rfl (vok_c (vok_sl m0) (vok_c v1 (vok_c v2 (vok_c rfl rfl)))) fun a fr => ?_
 refine r_ rfl ?_
 refine wl_run o_ 2 rfl fr fun a fr => ?_
 refine eq_ rfl rfl ?_
 refine wp_region_sl [u_ 0 10, u_ 1 11, u_ 2 12, u_ 3 13, u_ 4 14, u_ 5 15, u_ 6 16, u_ 7 17, .one (8, false, some 18)]
  [m_ 10 0 72,
  m_ 11 2 3,
  i_ 12 72 10 11,
  l_ 13 31 12,
  m_ 14 0 72,
  m_ 15 1 3,
  i_ 16 72 14 15,
  l_ 17 31 16,
  .one ⟨false, some 18, (.call { callee := (.value (.func 107)), args := #[(.tmp 13), (.tmp 17)], argTypes := #[31, 31] }), 4, none⟩]
  (fun w => Sat w0 w (stA 3 g903 [(.int .i64 x903)] :: R)) rfl (by kernel_rfl) (by kernel_rfl) (S.drew.mask [true]) ?_
 have S := S.drew
 refine sl_run o_ 2 rfl fr fun a fr => ?_
 obtain ⟨hc, h⟩ := ifs h
 refine sl_ld o_ (fun _ S => Rk.at rk0 S) fr rfl rfl rfl rfl rfl rfl rfl rfl rfl rfl rfl rfl rfl rfl rfl rfl rfl rfl hc (Sat.mask S [true]) fun a fr => ?_
 refine sl_run o_ 2 rfl fr fun a fr => ?_
 obtain ⟨hc, h⟩ := ifs h
 refine sl_ld o_ (fun _ S => Rk.at rk0 S) fr rfl rfl rfl rfl rfl rfl rfl rfl rfl rfl rfl rfl rfl rfl rfl rfl rfl rfl hc (Sat.mask S [true]) fun a fr => ?_
 obtain ⟨r1, hr, h⟩ := bnd h
 refine sl_call fr rfl rfl rfl rfl rfl en107 (Less_uint32.walk (List.getD l0 (Int.toNat a2) 0) (List.getD l0 (Int.toNat a1) 0) (fr.int (d := 13) rfl) (fr.int (d := 17) rfl) S hr) ?_
 rintro _ w ⟨rfl, hv, S⟩
 refine ⟨_, rfl, hv, (Sat.mask S [true]), fun a fr => ?_⟩
 refine sl_end ?_
 with_reducible refine then_n ?_
 refine cw_if fr rfl h (fun h => ?_) (fun h => ?_)
 ·refine r_ rfl ?_
  refine wl_run o_ 2 rfl fr fun a fr => ?_
  refine wl_ldf o_ (Sat.varAt S 0 rfl) fr rfl rfl rfl rfl rfl rfl rfl fun a fr => ?_
  refine wl_run o_ 2 rfl fr fun a fr => ?_
  refine wl_stv o_ fr rfl rfl rfl rfl rfl rfl rfl rfl S ?_
  intro w S
  obtain ⟨x2, hx, h⟩ := lt_h h
  have S : Sat w0 w (stA 3 g903 [(.int .i64 (IntKind.wrap .i64 (x903 + (1 : Int))))] :: R) := S
  rw [hx] at S
  refine er_ rfl rfl ?_
  refine wl_run o_ 4 rfl fr fun a fr => ?_
  refine e_ ?_
  refine wp_ret ?_
  refine then_r ?_
  injection h with h
  subst h
  refine ret2 fr rfl rfl rfl ?_
  exact ⟨rfl, vok_tupii fr (d := 8) (e := 9) rfl rfl, S.mask [true]⟩
 ·refine wp_skip ?_
  refine r_ rfl ?_
  refine wl_run o_ 4 rfl fr fun a fr => ?_
  refine e_ ?_
  refine wp_ret ?_
  injection h with h
  subst h
  refine ret2 fr rfl rfl rfl ?_
  exact ⟨rfl, vok_tupii fr (d := 8) (e := 9) rfl rfl, S.mask [true]⟩
theorem md_.walk (A0 : Option Addr) (c0 : Nat) (l0 : List Int) (a1 : Int) (a2 : Int) (a3 : Int) (g904 : Nat) (x904 : Int) {w0 w : World} {R : List Asn} (rk0 : Rk .u32 w0 A0 l0) (m0 : l0.length ≤ c0 ∧ c0 ≤ maxLen) (v1 : (Lit.int .i64 a1).wf = true) (v2 : (Lit.int .i64 a2).wf = true) (v3 : (Lit.int .i64 a3).wf = true) (S : Sat w0 w (stA 3 g904 [(.int .i64 x904)] :: R)) {r : Int × Int} (h : md_.f l0 a1 a2 a3 x904 = some r) :
  Calls Tryz.prog 123 #[(.slice A0 (List.length l0) c0), (.int .i64 a1), (.int .i64 a2), (.int .i64 a3), (.pointer (some ⟨g904, 0, none⟩))] w fun e w' => e = .returned (.int .i64 r.1) ∧ vok (.int .i64 r.1) = true ∧ Sat w0 w' (stA 3 g904 [(.int .i64 r.2)] :: R) := by
 unfold md_.f at h
 refine calls_start (N := 36) [(.slice A0 (List.length l0) c0), (.int .i64 a1), (.int .i64 a2), (.int .i64 a3), (.pointer (some ⟨g904, 0, none⟩))] Tryz.func123 rfl rfl rfl (vok_c (vok_sl m0) (vok_c v1 (vok_c v2 (vok_c v3 (vok_c rfl rfl))))) fun a fr => ?_
 refine r_ rfl ?_
 refine wl_run o_ 1 rfl fr fun a fr => ?_
 refine er_ rfl rfl ?_
 refine wl_run o_ 4 rfl fr fun a fr => ?_
 obtain ⟨r1, hr, h⟩ := bnd h
 refine wl_call fr rfl rfl rfl rfl en125 (o2_.walk A0 c0 l0 a1 a2 g904 x904 rk0 (fr.slice (d := 12) rfl) (fr.int (d := 13) rfl) (fr.int (d := 14) rfl) S hr) ?_
 rintro _ w ⟨rfl, hv, S⟩
 refine ⟨_, rfl, hv, fun a fr => ?_⟩
 refine wl_run o_ 5 rfl fr fun a fr => ?_
 refine er_ rfl rfl ?_
 refine wl_run o_ 4 rfl fr fun a fr => ?_
 obtain ⟨r2, hr, h⟩ := bnd h
 refine wl_call fr rfl rfl rfl rfl en125 (o2_.walk A0 c0 l0 r1.2.1 a3 g904 r1.2.2 rk0 (fr.slice (d := 20) rfl) (fr.int (d := 21) rfl) (fr.int (d := 22) rfl) S hr) ?_
 rintro _ w ⟨rfl, hv, S⟩
 refine ⟨_, rfl, hv, fun a fr => ?_⟩
 refine wl_run o_ 5 rfl fr fun a fr => ?_
 refine er_ rfl rfl ?_
 refine wl_run o_ 4 rfl fr fun a fr => ?_
 obtain ⟨r3, hr, h⟩ := bnd h
 refine wl_call fr rfl rfl rfl rfl en125 (o2_.walk A0 c0 l0 r1.1 r2.1 g904 r2.2.2 rk0 (fr.slice (d := 28) rfl) (fr.int (d := 29) rfl) (fr.int (d := 30) rfl) S hr) ?_
 rintro _ w ⟨rfl, hv, S⟩
 refine ⟨_, rfl, hv, fun a fr => ?_⟩
 refine wl_run o_ 5 rfl fr fun a fr => ?_
 refine er_ rfl rfl ?_
 refine wl_run o_ 2 rfl fr fun a fr => ?_
 refine e_ ?_
 refine wp_ret ?_
 injection h with h
 subst h
 refine ret1 fr rfl rfl ?_
 exact ⟨rfl, fr.vok (d := 10) rfl, S.mask [true]⟩
theorem ma_.walk (A0 : Option Addr) (c0 : Nat) (l0 : List Int) (a1 : Int) (g902 : Nat) (x902 : Int) {w0 w : World} {R : List Asn} (rk0 : Rk .u32 w0 A0 l0) (m0 : l0.length ≤ c0 ∧ c0 ≤ maxLen) (v1 : (Lit.int .i64 a1).wf = true) (S : Sat w0 w (stA 3 g902 [(.int .i64 x902)] :: R)) {r : Int × Int} (h : ma_.f l0 a1 x902 = some r) :
  Calls Tryz.prog 122 #[(.slice A0 (List.length l0) c0), (.int .i64 a1), (.pointer (some ⟨g902, 0, none⟩))] w fun e w' => e = .returned (.int .i64 r.1) ∧ vok (.int .i64 r.1) = true ∧ Sat w0 w' (stA 3 g902 [(.int .i64 r.2)] :: R) := by
 unfold ma_.f at h
 refine calls_start (N := 15) [(.slice A0 (List.length l0) c0), (.int .i64 a1), (.pointer (some ⟨g902, 0, none⟩))] Tryz.func122 rfl rfl rfl (vok_c (vok_sl m0) (vok_c v1 (vok_c rfl rfl))) fun a fr => ?_
 refine r_ rfl ?_
 refine wl_run o_ 1 rfl fr fun a fr => ?_
 refine er_ rfl rfl ?_
 refine wl_run o_ 7 rfl fr fun a fr => ?_
 obtain ⟨r1, hr, h⟩ := bnd h
 refine wl_call fr rfl rfl rfl rfl en123 (md_.walk A0 c0 l0 (IntKind.wrap .i64 (a1 - (1 : Int))) a1 (IntKind.wrap .i64 (a1 + (1 : Int))) g902 x902 rk0 (fr.slice (d := 7) rfl) (fr.int (d := 9) rfl) (fr.int (d := 10) rfl) (fr.int (d := 12) rfl) S hr) ?_
 rintro _ w ⟨rfl, hv, S⟩
 refine ⟨_, rfl, hv, fun a fr => ?_⟩
 refine wl_run o_ 1 rfl fr fun a fr => ?_
 refine e_ ?_
 refine wp_ret ?_
 injection h with h
 subst h
 refine ret1 fr rfl rfl ?_
 exact ⟨rfl, fr.vok (d := 6) rfl, S.mask [true]⟩
theorem cp_.walk (A0 : Option Addr) (c0 : Nat) (l0 : List Int) (a1 : Int) (a2 : Int) {w0 w : World} {R : List Asn} (rk0 : Rk .u32 w A0 l0) (m0 : l0.length ≤ c0 ∧ c0 ≤ maxLen) (v1 : (Lit.int .i64 a1).wf = true) (v2 : (Lit.int .i64 a2).wf = true) (S : Sat w0 w R) {r : Int × Int} (h : cp_.f l0 a1 a2 = some r) :
  Calls Tryz.prog 104 #[(.slice A0 (List.length l0) c0), (.int .i64 a1), (.int .i64 a2)] w fun e w' => e = .returned (.tuple #[(.int .i64 r.1), (.int .i64 r.2)]) ∧ vok (.tuple #[(.int .i64 r.1), (.int .i64 r.2)]) = true ∧ Sat w0 w' R := by
 have key : ∀ w0 : World, w0 = w → Sat w0 w [] → Calls Tryz.prog 104 #[(.slice A0 (List.length l0) c0), (.int .i64 a1), (.int .i64 a2)] w fun e w' => e = .returned (.tuple #[(.int .i64 r.1), (.int .i64 r.2)]) ∧ vok (.tuple #[(.int .i64 r.1), (.int .i64 r.2)]) = true ∧ Sat w0 w' [] := by
  clear S
  intro w0 hw S
  rw [← hw] at rk0
  clear hw
  unfold cp_.f at h
  refine calls_start (N := 57) [(.slice A0 (List.length l0) c0), (.int .i64 a1), (.int .i64 a2)] Tryz.func104 rfl rfl rfl (vok_c (vok_sl m0) (vok_c v1 (vok_c v2 rfl))) fun a fr => ?_
  refine r_ rfl ?_
  refine wl_run o_ 2 rfl fr fun a fr => ?_
  refine er_ rfl rfl ?_
  refine wl_run o_ 4 rfl fr fun a fr => ?_
  refine er_ rfl rfl ?_
  refine wl_allocv fr rfl rfl rfl rfl zero3 rfl rfl S ?_
  intro w g1 S a fr
  refine er_ rfl rfl ?_
  refine wl_run o_ 6 rfl fr fun a fr => ?_
  obtain ⟨y2, hx, h⟩ := lt_h h
  have fr := fr.spell (d := 10) rfl (congrArg (Value.int .i64) hx)
  refine er_ rfl rfl ?_
  refine wl_run o_ 6 rfl fr fun a fr => ?_
  obtain ⟨y3, hx, h⟩ := lt_h h
  have fr := fr.spell (d := 11) rfl (congrArg (Value.int .i64) hx)
  refine er_ rfl rfl ?_
  refine wl_run o_ 6 rfl fr fun a fr => ?_
  obtain ⟨y4, hx, h⟩ := lt_h h
  have fr := fr.spell (d := 12) rfl (congrArg (Value.int .i64) hx)
  refine e_ ?_
  refine cw_cut (fun a w => ∃ x5 : Int, ∃ x6 : Int, Fr 57 a [(9, (.pointer (some ⟨g1, 0, none⟩))), (11, (.int .i64 x6))] ∧ Sat w0 w [stA 3 g1 [(.int .i64 x5)]] ∧ (cp_.j1 x5 x6) = some r) ?_ ?_
  ·refine r_ rfl ?_
   refine wl_run o_ 2 rfl fr fun a fr => ?_
   refine e_ ?_
   refine cw_if fr rfl h (fun h => ?_) (fun h => ?_)
   ·refine cw_cut (fun a w => ∃ x7 : Int, ∃ x8 : Int, ∃ x9 : Int, ∃ x10 : Int, Fr 57 a [(0, (.slice A0 (List.length l0) c0)), (9, (.pointer (some ⟨g1, 0, none⟩))), (10, (.int .i64 x8)), (11, (.int .i64 x9)), (12, (.int .i64 x10))] ∧ Sat w0 w [stA 3 g1 [(.int .i64 x7)]] ∧ (cp_.j2 l0 x7 x8 x9 x10) = some r) ?_ ?_
    ·refine r_ rfl ?_
     refine wl_run o_ 2 rfl fr fun a fr => ?_
     refine e_ ?_
     refine cw_if fr rfl h (fun h => ?_) (fun h => ?_)
     ·refine r_ rfl ?_
      refine wl_run o_ 2 rfl fr fun a fr => ?_
      obtain ⟨r12, hr, h⟩ := bnd h
      refine wl_call fr rfl rfl rfl rfl en122 (ma_.walk A0 c0 l0 y2 g1 (0 : Int) rk0 (fr.slice (d := 35) rfl) (fr.int (d := 36) rfl) S hr) ?_
      rintro _ w ⟨rfl, hv, S⟩
      refine ⟨_, rfl, hv, fun a fr => ?_⟩
      refine wl_run o_ 1 rfl fr fun a fr => ?_
      refine er_ rfl rfl ?_
      refine wl_run o_ 2 rfl fr fun a fr => ?_
      obtain ⟨r13, hr, h⟩ := bnd h
      refine wl_call fr rfl rfl rfl rfl en122 (ma_.walk A0 c0 l0 y3 g1 r12.2 rk0 (fr.slice (d := 38) rfl) (fr.int (d := 39) rfl) S hr) ?_
      rintro _ w ⟨rfl, hv, S⟩
      refine ⟨_, rfl, hv, fun a fr => ?_⟩
      refine wl_run o_ 1 rfl fr fun a fr => ?_
      refine er_ rfl rfl ?_
      refine wl_run o_ 2 rfl fr fun a fr => ?_
      obtain ⟨r14, hr, h⟩ := bnd h
      refine wl_call fr rfl rfl rfl rfl en122 (ma_.walk A0 c0 l0 y4 g1 r13.2 rk0 (fr.slice (d := 41) rfl) (fr.int (d := 42) rfl) S hr) ?_
      rintro _ w ⟨rfl, hv, S⟩
      refine ⟨_, rfl, hv, fun a fr => ?_⟩
      refine wl_run o_ 1 rfl fr fun a fr => ?_
      refine wpList_nil ?_
      exact ⟨r14.2, r12.1, r13.1, r14.1, fr.sub ⟨rfl, rfl, rfl, rfl, rfl, trivial⟩, S, h⟩
     ·refine wp_skip ?_
      exact ⟨(0 : Int), y2, y3, y4, fr.sub ⟨rfl, rfl, rfl, rfl, rfl, trivial⟩, S, h⟩
    ·rintro a w ⟨x7, x8, x9, x10, fr, S, h⟩
     rw [cp_.j2] at h
     refine wp_region_lit ?_
     refine wl_run o_ 4 rfl fr fun a fr => ?_
     obtain ⟨r11, hr, h⟩ := bnd h
     refine wl_call fr rfl rfl rfl rfl en123 (md_.walk A0 c0 l0 x8 x9 x10 g1 x7 rk0 (fr.slice (d := 44) rfl) (fr.int (d := 45) rfl) (fr.int (d := 46) rfl) (fr.int (d := 47) rfl) S hr) ?_
     rintro _ w ⟨rfl, hv, S⟩
     refine ⟨_, rfl, hv, fun a fr => ?_⟩
     refine wl_run o_ 1 rfl fr fun a fr => ?_
     refine wpList_nil ?_
     exact ⟨r11.2, r11.1, fr.sub ⟨rfl, rfl, trivial⟩, S, h⟩
   ·refine wp_skip ?_
    exact ⟨(0 : Int), y3, fr.sub ⟨rfl, rfl, trivial⟩, S, h⟩
  ·rintro a w ⟨x5, x6, fr, S, h⟩
   rw [cp_.j1] at h
   refine r_ rfl ?_
   refine wl_ldf o_ (Sat.varAt S 0 rfl) fr rfl rfl rfl rfl rfl rfl rfl fun a fr => ?_
   refine e_ ?_
   refine wp_block ?_
   refine r_ rfl ?_
   refine wl_run o_ 2 rfl fr fun a fr => ?_
   refine e_ ?_
   refine cw_if fr rfl h (fun h => ?_) (fun h => ?_)
   ·refine r_ rfl ?_
    refine wl_run o_ 3 rfl fr fun a fr => ?_
    refine e_ ?_
    refine wp_ret ?_
    refine blk_r ?_
    injection h with h
    subst h
    refine ret2 fr rfl rfl rfl ?_
    exact ⟨rfl, vok_tupii fr (d := 6) (e := 7) rfl rfl, S.mask [false]⟩
   ·refine r_ rfl ?_
    refine wl_run o_ 2 rfl fr fun a fr => ?_
    refine e_ ?_
    refine cw_if fr rfl h (fun h => ?_) (fun h => ?_)
    ·refine r_ rfl ?_
     refine wl_run o_ 3 rfl fr fun a fr => ?_
     refine e_ ?_
     refine wp_ret ?_
     refine blk_r ?_
     injection h with h
     subst h
     refine ret2 fr rfl rfl rfl ?_
     exact ⟨rfl, vok_tupii fr (d := 6) (e := 7) rfl rfl, S.mask [false]⟩
    ·refine r_ rfl ?_
     refine wl_run o_ 3 rfl fr fun a fr => ?_
     refine e_ ?_
     refine wp_ret ?_
     refine blk_r ?_
     injection h with h
     subst h
     refine ret2 fr rfl rfl rfl ?_
     exact ⟨rfl, vok_tupii fr (d := 6) (e := 7) rfl rfl, S.mask [false]⟩
 exact (key w rfl (Sat.start w)).mono fun e w' ⟨h1, h2, h3⟩ => ⟨h1, h2, S.new h3.below⟩
theorem rr_.walk (k : Nat) (A0 : Option Addr) (c0 n0 : Nat) (l0 : List Int) (a1 : Int) (a2 : Int) {w0 w : World} {R : List Asn} (m0 : n0 ≤ c0 ∧ c0 ≤ maxLen) (v1 : (Lit.int .i64 a1).wf = true) (v2 : (Lit.int .i64 a2).wf = true) (S : Sat w0 w (rowA .u32 31 A0 c0 n0 l0 :: R)) {r : List Int} (h : rr_.f k n0 l0 a1 a2 = some r) :
  Calls Tryz.prog 105 #[(.slice A0 n0 c0), (.int .i64 a1), (.int .i64 a2)] w fun e w' => e = .returned (.tuple #[]) ∧ Sat w0 w' (rowA .u32 31 A0 c0 n0 r :: R) := by
 unfold rr_.f at h
 refine calls_start (N := 32) [(.slice A0 n0 c0), (.int .i64 a1), (.int .i64 a2)] Tryz.func105 rfl rfl rfl (vok_c (vok_sl m0) (vok_c v1 (vok_c v2 rfl))) fun a fr => ?_
 refine r_ rfl ?_
 refine wl_run o_ 2 rfl fr fun a fr => ?_
 refine er_ rfl rfl ?_
 refine wl_run o_ 3 rfl fr fun a fr => ?_
 refine e_ ?_
 refine wp_block ?_
 refine cw_loop (fun k1 a w => ∃ l1 : List Int, ∃ x2 : Int, ∃ x3 : Int, Fr 32 a [(0, (.slice A0 n0 c0)), (6, (.int .i64 x2)), (7, (.int .i64 x3))] ∧ Sat w0 w (rowA .u32 31 A0 c0 n0 l1 :: R) ∧ (rr_.l1 k1 n0 l1 x2 x3) = some r) k ⟨l0, a1, (IntKind.wrap .i64 (a2 - (1 : Int))), fr.sub ⟨rfl, rfl, rfl, trivial⟩, S, h⟩ ?_ ?_
 ·rintro a w ⟨l1, x2, x3, -, -, h⟩
  simp only [rr_.l1] at h
  cases h
 ·rintro k1 a w ⟨l1, x2, x3, fr, S, h⟩
  rw [rr_.l1] at h
  refine r_ rfl ?_
  refine wl_run o_ 3 rfl fr fun a fr => ?_
  refine e_ ?_
  refine cw_if fr rfl h (fun h => ?_) (fun h => ?_)
  ·refine wp_skip ?_
   with_reducible refine then_n ?_
   refine wp_block ?_
   refine q_ rfl ?_
   refine wp_region_ph [2, 3] [12, 13, 14, 15] [u_ 2 16, u_ 3 17] [m_ 16 0 72,
  m_ 17 7 3] [u_ 0 14, u_ 1 15, u_ 4 18, u_ 5 19, u_ 6 20, u_ 7 21, u_ 8 22, u_ 9 23, u_ 10 24, u_ 11 25]
    [m_ 14 0 72,
  m_ 15 6 3,
  m_ 18 0 72,
  m_ 19 7 3,
  i_ 20 72 18 19,
  l_ 21 31 20,
  m_ 22 0 72,
  m_ 23 6 3,
  i_ 24 72 22 23,
  l_ 25 31 24]
    [u_ 12 26, .one (13, false, none), u_ 14 27, .one (15, false, none)]
    [i_ 26 72 14 15,
  .one ⟨false, none, (.store 31 (.tmp 26) (.tmp 21)), 0, none⟩,
  i_ 27 72 16 17,
  .one ⟨false, none, (.store 31 (.tmp 27) (.tmp 25)), 0, none⟩]
    (fun w => Sat w0 w (rowA .u32 31 A0 c0 n0 l1 :: R)) (fun w => Sat w0 w (R)) rfl (by kernel_rfl) (by kernel_rfl) (by kernel_rfl) (by kernel_rfl) (S.drew.mask [true]) (fun _ S => S.mask [false]) ?_
   have S := S.drew
   refine sl_run o_ 2 rfl fr fun a fr => ?_
   refine sl_next ?_
   refine sl_run o_ 4 rfl fr fun a fr => ?_
   obtain ⟨hc, h⟩ := ifs h
   refine sl_ld o_ (fun _ S => Sat.rowAt S 0 rfl) fr rfl rfl rfl rfl rfl rfl rfl rfl rfl rfl rfl rfl rfl rfl rfl rfl (Sat.rowLen S 0 rfl) rfl (Sat.rowHb S 0 rfl hc) (Sat.mask S [true]) fun a fr => ?_
   refine sl_run o_ 2 rfl fr fun a fr => ?_
   obtain ⟨hc, h⟩ := ifs h
   refine sl_ld o_ (fun _ S => Sat.rowAt S 0 rfl) fr rfl rfl rfl rfl rfl rfl rfl rfl rfl rfl rfl rfl rfl rfl rfl rfl (Sat.rowLen S 0 rfl) rfl (Sat.rowHb S 0 rfl hc) (Sat.mask S [true]) fun a fr => ?_
   refine sl_next ?_
   obtain ⟨hc, h⟩ := ifs h
   have hp26 := hc
   refine sl_pe o_ (Sat.rowAt S 0 rfl) fr rfl rfl rfl rfl rfl rfl rfl rfl rfl (Sat.rowLen S 0 rfl) (Sat.rowHb S 0 rfl hc) fun a fr => ?_
   refine sl_str o_ fr rfl rfl rfl rfl rfl rfl rfl S hp26 ?_
   intro w S
   refine ⟨(Sat.mask S [false]), ?_⟩
   obtain ⟨hc, h⟩ := ifs h
   have hp27 := hc
   refine sl_pe o_ (Sat.rowAt S 0 rfl) fr rfl rfl rfl rfl rfl rfl rfl rfl rfl (Sat.rowLen S 0 rfl) (Sat.rowHb S 0 rfl hc) fun a fr => ?_
   refine sl_str o_ fr rfl rfl rfl rfl rfl rfl rfl S hp27 ?_
   intro w S
   refine ⟨(Sat.mask S [false]), ?_⟩
   refine sl_end ?_
   refine r_ rfl ?_
   refine wl_run o_ 3 rfl fr fun a fr => ?_
   refine er_ rfl rfl ?_
   refine wl_run o_ 3 rfl fr fun a fr => ?_
   refine wpList_nil ?_
   refine blk_n ?_
   exact ⟨(List.set (List.set l1 (Int.toNat x2) (List.getD l1 (Int.toNat x3) 0)) (Int.toNat x3) (List.getD l1 (Int.toNat x2) 0)), (IntKind.wrap .i64 (x2 + (1 : Int))), (IntKind.wrap .i64 (x3 - (1 : Int))), fr.sub ⟨rfl, rfl, rfl, trivial⟩, S, h⟩
  ·refine wp_exit ?_
   refine then_e ?_
   refine then_e ?_
   refine blk_y ?_
   refine end_ret ?_
   injection h with h
   subst h
   refine ret0 fr rfl ?_
   exact ⟨rfl, S.mask [true]⟩
theorem pi_.walk (k : Nat) (A0 : Option Addr) (c0 n0 : Nat) (l0 : List Int) (a1 : Int) (a2 : Int) {w0 w : World} {R : List Asn} (m0 : n0 ≤ c0 ∧ c0 ≤ maxLen) (v1 : (Lit.int .i64 a1).wf = true) (v2 : (Lit.int .i64 a2).wf = true) (S : Sat w0 w (rowA .u32 31 A0 c0 n0 l0 :: R)) {r : Bool × List Int} (h : pi_.f k n0 l0 a1 a2 = some r) :
  Calls Tryz.prog 106 #[(.slice A0 n0 c0), (.int .i64 a1), (.int .i64 a2)] w fun e w' => e = .returned (.bool r.1) ∧ vok (.bool r.1) = true ∧ Sat w0 w' (rowA .u32 31 A0 c0 n0 r.2 :: R) := by
 unfold pi_.f at h
 refine calls_start (N := 133) [(.slice A0 n0 c0), (.int .i64 a1), (.int .i64 a2)] Tryz.func106 rfl rfl rfl (vok_c (vok_sl m0) (vok_c v1 (vok_c v2 rfl))) fun a fr => ?_
 refine r_ rfl ?_
 refine wl_run o_ 1 rfl fr fun a fr => ?_
 refine er_ rfl rfl ?_
 refine wl_run o_ 3 rfl fr fun a fr => ?_
 refine er_ rfl rfl ?_
 refine wl_run o_ 1 rfl fr fun a fr => ?_
 refine e_ ?_
 refine wp_block ?_
 refine cw_loop (fun k1 a w => ∃ l1 : List Int, ∃ x2 : Int, ∃ x3 : Int, Fr 133 a [(0, (.slice A0 n0 c0)), (1, (.int .i64 a1)), (2, (.int .i64 a2)), (7, (.int .i64 x2)), (8, (.int .i64 x3))] ∧ Sat w0 w (rowA .u32 31 A0 c0 n0 l1 :: R) ∧ (pi_.l1 k1 a2 n0 a1 l1 x2 x3) = some r) k ⟨l0, (IntKind.wrap .i64 (a1 + (1 : Int))), (0 : Int), fr.sub ⟨rfl, rfl, rfl, rfl, rfl, trivial⟩, S, h⟩ ?_ ?_
 ·rintro a w ⟨l1, x2, x3, -, -, h⟩
  simp only [pi_.l1] at h
  cases h
 ·rintro k1 a w ⟨l1, x2, x3, fr, S, h⟩
  rw [pi_.l1] at h
  refine r_ rfl ?_
  refine wl_run o_ 2 rfl fr fun a fr => ?_
  refine e_ ?_
  refine cw_if fr rfl h (fun h => ?_) (fun h => ?_)
  ·refine wp_skip ?_
   with_reducible refine then_n ?_
   refine cw_cut (fun a w => ∃ l7 : List Int, ∃ x8 : Int, Fr 133 a [(0, (.slice A0 n0 c0)), (1, (.int .i64 a1)), (2, (.int .i64 a2)), (7, (.int .i64 x8)), (8, (.int .i64 x3))] ∧ Sat w0 w (rowA .u32 31 A0 c0 n0 l7 :: R) ∧ (pi_.j1 (pi_.l1 k1 a2 n0 a1) x3 l7 x8) = some r) ?_ ?_
   ·refine wp_block ?_
    refine cw_cut (fun a w => ∃ kj2 : Nat, ∃ x9 : Int, Fr 133 a [(0, (.slice A0 n0 c0)), (1, (.int .i64 a1)), (2, (.int .i64 a2)), (7, (.int .i64 x9)), (8, (.int .i64 x3))] ∧ Sat w0 w (rowA .u32 31 A0 c0 n0 l1 :: R) ∧ (pi_.j2 kj2 (pi_.l1 k1 a2 n0 a1) a2 l1 a1 n0 x3 x9) = some r) ?_ ?_
    ·refine wp_block ?_
     refine cw_loop (fun k4 a w => ∃ x21 : Int, Fr 133 a [(0, (.slice A0 n0 c0)), (1, (.int .i64 a1)), (2, (.int .i64 a2)), (7, (.int .i64 x21)), (8, (.int .i64 x3))] ∧ Sat w0 w (rowA .u32 31 A0 c0 n0 l1 :: R) ∧ (pi_.l4 k4 (pi_.l1 k1 a2 n0 a1) a2 n0 l1 a1 x3 x21) = some r) k1 ⟨x2, fr.sub ⟨rfl, rfl, rfl, rfl, rfl, trivial⟩, S, h⟩ ?_ ?_
     ·rintro a w ⟨x21, -, -, h⟩
      simp only [pi_.l4] at h
      cases h
     ·rintro k4 a w ⟨x21, fr, S, h⟩
      rw [pi_.l4] at h
      refine q_ rfl ?_
      refine wp_region_sl [u_ 0 17, u_ 1 18, u_ 2 19, u_ 3 20, u_ 4 21, u_ 5 22, u_ 6 23, u_ 7 24, u_ 8 25, u_ 9 26, u_ 10 27, u_ 11 28, u_ 12 29, .one (13, false, some 30), u_ 14 31, u_ 15 32]
       [m_ 17 7 3,
  m_ 18 2 3,
  .one ⟨true, some 19, (.binOp .lss 3 (.tmp 17) (.tmp 18) 3), 4, none⟩,
  m_ 20 19 4,
  .one ⟨true, some 21, (.move (.tmp 0)), 72, some (20, true)⟩,
  .one ⟨true, some 22, (.move (.tmp 7)), 3, some (20, true)⟩,
  .one ⟨true, some 23, (.indexAddr 72 (.tmp 21) (.tmp 22)), 0, some (20, true)⟩,
  .one ⟨true, some 24, (.load 31 (.tmp 23)), 31, some (20, true)⟩,
  .one ⟨true, some 25, (.move (.tmp 0)), 72, some (20, true)⟩,
  .one ⟨true, some 26, (.move (.tmp 7)), 3, some (20, true)⟩,
  .one ⟨true, some 27, (.binOp .sub 3 (.tmp 26) (.const (.int .i64 1)) 3), 3, some (20, true)⟩,
  .one ⟨true, some 28, (.indexAddr 72 (.tmp 25) (.tmp 27)), 0, some (20, true)⟩,
  .one ⟨true, some 29, (.load 31 (.tmp 28)), 31, some (20, true)⟩,
  .one ⟨false, some 30, (.call { callee := (.value (.func 107)), args := #[(.tmp 24), (.tmp 29)], argTypes := #[31, 31] }), 4, some (20, true)⟩,
  .one ⟨true, some 31, (.unOp .not 4 (.tmp 30)), 4, some (20, true)⟩,
  .one ⟨true, some 32, (.pick (.tmp 20) (.tmp 31) (.const (.bool false))), 4, none⟩]
       (fun w => Sat w0 w (rowA .u32 31 A0 c0 n0 l1 :: R)) rfl (by kernel_rfl) (by kernel_rfl) (S.drew.mask [true]) ?_
      have S := S.drew
      refine sl_run o_ 4 rfl fr fun a fr => ?_
      refine sl_split 20 fr rfl h (fun fr h => ?_) (fun fr h => ?_)
      ·refine sl_run o_ 2 rfl fr fun a fr => ?_
       obtain ⟨hc, h⟩ := ifs h
       refine sl_ld o_ (fun _ S => Sat.rowAt S 0 rfl) fr rfl rfl rfl rfl rfl rfl rfl rfl rfl rfl rfl rfl rfl rfl rfl rfl (Sat.rowLen S 0 rfl) rfl (Sat.rowHb S 0 rfl hc) (Sat.mask S [true]) fun a fr => ?_
       refine sl_run o_ 3 rfl fr fun a fr => ?_
       obtain ⟨hc, h⟩ := ifs h
       refine sl_ld o_ (fun _ S => Sat.rowAt S 0 rfl) fr rfl rfl rfl rfl rfl rfl rfl rfl rfl rfl rfl rfl rfl rfl rfl rfl (Sat.rowLen S 0 rfl) rfl (Sat.rowHb S 0 rfl hc) (Sat.mask S [true]) fun a fr => ?_
       obtain ⟨r23, hr, h⟩ := bnd h
       refine sl_call fr rfl rfl rfl rfl rfl en107 (Less_uint32.walk (List.getD l1 (Int.toNat x21) 0) (List.getD l1 (Int.toNat (IntKind.wrap .i64 (x21 - (1 : Int)))) 0) (fr.int (d := 24) rfl) (fr.int (d := 29) rfl) S hr) ?_
       rintro _ w ⟨rfl, hv, S⟩
       refine ⟨_, rfl, hv, (Sat.mask S [true]), fun a fr => ?_⟩
       refine sl_run o_ 2 rfl fr fun a fr => ?_
       refine sl_end ?_
       with_reducible refine then_n ?_
       refine cw_if fr rfl h (fun h => ?_) (fun h => ?_)
       ·refine wp_skip ?_
        with_reducible refine then_n ?_
        refine wp_block ?_
        refine wp_region_lit ?_
        refine wl_run o_ 3 rfl fr fun a fr => ?_
        refine wpList_nil ?_
        refine blk_n ?_
        exact ⟨(IntKind.wrap .i64 (x21 + (1 : Int))), fr.sub ⟨rfl, rfl, rfl, rfl, rfl, trivial⟩, S, h⟩
       ·refine wp_exit ?_
        refine then_e ?_
        refine then_e ?_
        refine blk_y ?_
        exact ⟨k4, x21, fr.sub ⟨rfl, rfl, rfl, rfl, rfl, trivial⟩, S, h⟩
      ·refine sl_run o_ 9 rfl fr fun a fr => ?_
       refine sl_no fr rfl (Sat.mask S [true]) rfl rfl fun a fr => ?_
       refine sl_run o_ 2 rfl fr fun a fr => ?_
       refine sl_end ?_
       with_reducible refine then_n ?_
       refine cw_f fr rfl ?_
       refine wp_exit ?_
       refine then_e ?_
       refine then_e ?_
       refine blk_y ?_
       exact ⟨k4, x21, fr.sub ⟨rfl, rfl, rfl, rfl, rfl, trivial⟩, S, h⟩
    ·rintro a w ⟨kj2, x9, fr, S, h⟩
     rw [pi_.j2] at h
     refine r_ rfl ?_
     refine wl_run o_ 3 rfl fr fun a fr => ?_
     refine e_ ?_
     refine cw_if fr rfl h (fun h => ?_) (fun h => ?_)
     ·refine r_ rfl ?_
      refine wl_run o_ 1 rfl fr fun a fr => ?_
      refine e_ ?_
      refine wp_ret ?_
      refine then_r ?_
      refine blk_r ?_
      refine then_r ?_
      refine then_r ?_
      refine blk_r ?_
      refine then_r ?_
      injection h with h
      subst h
      refine ret1 fr rfl rfl ?_
      exact ⟨rfl, fr.vok (d := 6) rfl, S.mask [true]⟩
     ·refine wp_skip ?_
      refine r_ rfl ?_
      refine wl_run o_ 4 rfl fr fun a fr => ?_
      refine e_ ?_
      refine cw_if fr rfl h (fun h => ?_) (fun h => ?_)
      ·refine r_ rfl ?_
       refine wl_run o_ 1 rfl fr fun a fr => ?_
       refine e_ ?_
       refine wp_ret ?_
       refine then_r ?_
       refine blk_r ?_
       refine then_r ?_
       refine then_r ?_
       refine blk_r ?_
       refine then_r ?_
       injection h with h
       subst h
       refine ret1 fr rfl rfl ?_
       exact ⟨rfl, fr.vok (d := 6) rfl, S.mask [true]⟩
      ·refine wp_skip ?_
       refine q_ rfl ?_
       refine wp_region_ph [2, 3, 4] [14, 15, 16, 17] [u_ 2 44, u_ 3 45, u_ 4 46] [m_ 44 0 72,
  m_ 45 7 3,
  .one ⟨true, some 46, (.binOp .sub 3 (.tmp 45) (.const (.int .i64 1)) 3), 3, none⟩] [u_ 0 42, u_ 1 43, u_ 5 47, u_ 6 48, u_ 7 49, u_ 8 50, u_ 9 51, u_ 10 52, u_ 11 53, u_ 12 54, u_ 13 55]
        [m_ 42 0 72,
  m_ 43 7 3,
  m_ 47 0 72,
  m_ 48 7 3,
  .one ⟨true, some 49, (.binOp .sub 3 (.tmp 48) (.const (.int .i64 1)) 3), 3, none⟩,
  i_ 50 72 47 49,
  l_ 51 31 50,
  m_ 52 0 72,
  m_ 53 7 3,
  i_ 54 72 52 53,
  l_ 55 31 54]
        [u_ 14 56, .one (15, false, none), u_ 16 57, .one (17, false, none)]
        [i_ 56 72 42 43,
  .one ⟨false, none, (.store 31 (.tmp 56) (.tmp 51)), 0, none⟩,
  i_ 57 72 44 46,
  .one ⟨false, none, (.store 31 (.tmp 57) (.tmp 55)), 0, none⟩]
        (fun w => Sat w0 w (rowA .u32 31 A0 c0 n0 l1 :: R)) (fun w => Sat w0 w (R)) rfl (by kernel_rfl) (by kernel_rfl) (by kernel_rfl) (by kernel_rfl) (S.drew.mask [true]) (fun _ S => S.mask [false]) ?_
       have S := S.drew
       refine sl_run o_ 3 rfl fr fun a fr => ?_
       refine sl_next ?_
       refine sl_run o_ 5 rfl fr fun a fr => ?_
       obtain ⟨hc, h⟩ := ifs h
       refine sl_ld o_ (fun _ S => Sat.rowAt S 0 rfl) fr rfl rfl rfl rfl rfl rfl rfl rfl rfl rfl rfl rfl rfl rfl rfl rfl (Sat.rowLen S 0 rfl) rfl (Sat.rowHb S 0 rfl hc) (Sat.mask S [true]) fun a fr => ?_
       refine sl_run o_ 2 rfl fr fun a fr => ?_
       obtain ⟨hc, h⟩ := ifs h
       refine sl_ld o_ (fun _ S => Sat.rowAt S 0 rfl) fr rfl rfl rfl rfl rfl rfl rfl rfl rfl rfl rfl rfl rfl rfl rfl rfl (Sat.rowLen S 0 rfl) rfl (Sat.rowHb S 0 rfl hc) (Sat.mask S [true]) fun a fr => ?_
       refine sl_next ?_
       obtain ⟨hc, h⟩ := ifs h
       have hp56 := hc
       refine sl_pe o_ (Sat.rowAt S 0 rfl) fr rfl rfl rfl rfl rfl rfl rfl rfl rfl (Sat.rowLen S 0 rfl) (Sat.rowHb S 0 rfl hc) fun a fr => ?_
       refine sl_str o_ fr rfl rfl rfl rfl rfl rfl rfl S hp56 ?_
       intro w S
       refine ⟨(Sat.mask S [false]), ?_⟩
       obtain ⟨hc, h⟩ := ifs h
       have hp57 := hc
       refine sl_pe o_ (Sat.rowAt S 0 rfl) fr rfl rfl rfl rfl rfl rfl rfl rfl rfl (Sat.rowLen S 0 rfl) (Sat.rowHb S 0 rfl hc) fun a fr => ?_
       refine sl_str o_ fr rfl rfl rfl rfl rfl rfl rfl S hp57 ?_
       intro w S
       refine ⟨(Sat.mask S [false]), ?_⟩
       refine sl_end ?_
       with_reducible refine then_n ?_
       refine cw_cut (fun a w => ∃ kj3 : Nat, ∃ l10 : List Int, Fr 133 a [(0, (.slice A0 n0 c0)), (1, (.int .i64 a1)), (2, (.int .i64 a2)), (7, (.int .i64 x9)), (8, (.int .i64 x3))] ∧ Sat w0 w (rowA .u32 31 A0 c0 n0 l10 :: R) ∧ (pi_.j3 kj3 (pi_.l1 k1 a2 n0 a1) a2 x9 n0 x3 l10) = some r) ?_ ?_
       ·refine r_ rfl ?_
        refine wl_run o_ 4 rfl fr fun a fr => ?_
        refine e_ ?_
        refine cw_if fr rfl h (fun h => ?_) (fun h => ?_)
        ·refine r_ rfl ?_
         refine wl_run o_ 3 rfl fr fun a fr => ?_
         refine e_ ?_
         refine wp_block ?_
         refine cw_loop (fun k3 a w => ∃ l16 : List Int, ∃ x17 : Int, Fr 133 a [(0, (.slice A0 n0 c0)), (1, (.int .i64 a1)), (2, (.int .i64 a2)), (7, (.int .i64 x9)), (8, (.int .i64 x3)), (9, (.int .i64 x17))] ∧ Sat w0 w (rowA .u32 31 A0 c0 n0 l16 :: R) ∧ (pi_.l3 k3 (pi_.l1 k1 a2 n0 a1) n0 a2 x9 x3 l16 x17) = some r) kj2 ⟨(List.set (List.set l1 (Int.toNat x9) (List.getD l1 (Int.toNat (IntKind.wrap .i64 (x9 - (1 : Int)))) 0)) (Int.toNat (IntKind.wrap .i64 (x9 - (1 : Int)))) (List.getD l1 (Int.toNat x9) 0)), (IntKind.wrap .i64 (x9 - (1 : Int))), fr.sub ⟨rfl, rfl, rfl, rfl, rfl, rfl, trivial⟩, S, h⟩ ?_ ?_
         ·rintro a w ⟨l16, x17, -, -, h⟩
          simp only [pi_.l3] at h
          cases h
         ·rintro k3 a w ⟨l16, x17, fr, S, h⟩
          rw [pi_.l3] at h
          refine r_ rfl ?_
          refine wl_run o_ 2 rfl fr fun a fr => ?_
          refine e_ ?_
          refine cw_if fr rfl h (fun h => ?_) (fun h => ?_)
          ·refine wp_skip ?_
           refine q_ rfl ?_
           refine wp_block ?_
           refine q_ rfl ?_
           refine wp_region_sl [u_ 0 68, u_ 1 69, u_ 2 70, u_ 3 71, u_ 4 72, u_ 5 73, u_ 6 74, u_ 7 75, u_ 8 76, .one (9, false, some 77), u_ 10 78]
            [m_ 68 0 72,
  m_ 69 9 3,
  i_ 70 72 68 69,
  l_ 71 31 70,
  m_ 72 0 72,
  m_ 73 9 3,
  .one ⟨true, some 74, (.binOp .sub 3 (.tmp 73) (.const (.int .i64 1)) 3), 3, none⟩,
  i_ 75 72 72 74,
  l_ 76 31 75,
  .one ⟨false, some 77, (.call { callee := (.value (.func 107)), args := #[(.tmp 71), (.tmp 76)], argTypes := #[31, 31] }), 4, none⟩,
  .one ⟨true, some 78, (.unOp .not 4 (.tmp 77)), 4, none⟩]
            (fun w => Sat w0 w (rowA .u32 31 A0 c0 n0 l16 :: R)) rfl (by kernel_rfl) (by kernel_rfl) (S.drew.mask [true]) ?_
           have S := S.drew
           refine sl_run o_ 2 rfl fr fun a fr => ?_
           obtain ⟨hc, h⟩ := ifs h
           refine sl_ld o_ (fun _ S => Sat.rowAt S 0 rfl) fr rfl rfl rfl rfl rfl rfl rfl rfl rfl rfl rfl rfl rfl rfl rfl rfl (Sat.rowLen S 0 rfl) rfl (Sat.rowHb S 0 rfl hc) (Sat.mask S [true]) fun a fr => ?_
           refine sl_run o_ 3 rfl fr fun a fr => ?_
           obtain ⟨hc, h⟩ := ifs h
           refine sl_ld o_ (fun _ S => Sat.rowAt S 0 rfl) fr rfl rfl rfl rfl rfl rfl rfl rfl rfl rfl rfl rfl rfl rfl rfl rfl (Sat.rowLen S 0 rfl) rfl (Sat.rowHb S 0 rfl hc) (Sat.mask S [true]) fun a fr => ?_
           obtain ⟨r20, hr, h⟩ := bnd h
           refine sl_call fr rfl rfl rfl rfl rfl en107 (Less_uint32.walk (List.getD l16 (Int.toNat x17) 0) (List.getD l16 (Int.toNat (IntKind.wrap .i64 (x17 - (1 : Int)))) 0) (fr.int (d := 71) rfl) (fr.int (d := 76) rfl) S hr) ?_
           rintro _ w ⟨rfl, hv, S⟩
           refine ⟨_, rfl, hv, (Sat.mask S [true]), fun a fr => ?_⟩
           refine sl_run o_ 1 rfl fr fun a fr => ?_
           refine sl_end ?_
           with_reducible refine then_n ?_
           refine cw_if fr rfl h (fun h => ?_) (fun h => ?_)
           ·refine wp_exit ?_
            refine then_e ?_
            refine blk_e rfl ?_
            refine then_e ?_
            refine then_e ?_
            refine blk_y ?_
            exact ⟨k3, l16, fr.sub ⟨rfl, rfl, rfl, rfl, rfl, trivial⟩, S, h⟩
           ·refine wp_skip ?_
            with_reducible refine then_n ?_
            refine wp_region_ph [2, 3, 4] [14, 15, 16, 17] [u_ 2 81, u_ 3 82, u_ 4 83] [m_ 81 0 72,
  m_ 82 9 3,
  .one ⟨true, some 83, (.binOp .sub 3 (.tmp 82) (.const (.int .i64 1)) 3), 3, none⟩] [u_ 0 79, u_ 1 80, u_ 5 84, u_ 6 85, u_ 7 86, u_ 8 87, u_ 9 88, u_ 10 89, u_ 11 90, u_ 12 91, u_ 13 92]
             [m_ 79 0 72,
  m_ 80 9 3,
  m_ 84 0 72,
  m_ 85 9 3,
  .one ⟨true, some 86, (.binOp .sub 3 (.tmp 85) (.const (.int .i64 1)) 3), 3, none⟩,
  i_ 87 72 84 86,
  l_ 88 31 87,
  m_ 89 0 72,
  m_ 90 9 3,
  i_ 91 72 89 90,
  l_ 92 31 91]
             [u_ 14 93, .one (15, false, none), u_ 16 94, .one (17, false, none)]
             [i_ 93 72 79 80,
  .one ⟨false, none, (.store 31 (.tmp 93) (.tmp 88)), 0, none⟩,
  i_ 94 72 81 83,
  .one ⟨false, none, (.store 31 (.tmp 94) (.tmp 92)), 0, none⟩]
             (fun w => Sat w0 w (rowA .u32 31 A0 c0 n0 l16 :: R)) (fun w => Sat w0 w (R)) rfl (by kernel_rfl) (by kernel_rfl) (by kernel_rfl) (by kernel_rfl) (S.drew.mask [true]) (fun _ S => S.mask [false]) ?_
            have S := S.drew
            refine sl_run o_ 3 rfl fr fun a fr => ?_
            refine sl_next ?_
            refine sl_run o_ 5 rfl fr fun a fr => ?_
            obtain ⟨hc, h⟩ := ifs h
            refine sl_ld o_ (fun _ S => Sat.rowAt S 0 rfl) fr rfl rfl rfl rfl rfl rfl rfl rfl rfl rfl rfl rfl rfl rfl rfl rfl (Sat.rowLen S 0 rfl) rfl (Sat.rowHb S 0 rfl hc) (Sat.mask S [true]) fun a fr => ?_
            refine sl_run o_ 2 rfl fr fun a fr => ?_
            obtain ⟨hc, h⟩ := ifs h
            refine sl_ld o_ (fun _ S => Sat.rowAt S 0 rfl) fr rfl rfl rfl rfl rfl rfl rfl rfl rfl rfl rfl rfl rfl rfl rfl rfl (Sat.rowLen S 0 rfl) rfl (Sat.rowHb S 0 rfl hc) (Sat.mask S [true]) fun a fr => ?_
            refine sl_next ?_
            obtain ⟨hc, h⟩ := ifs h
            have hp93 := hc
            refine sl_pe o_ (Sat.rowAt S 0 rfl) fr rfl rfl rfl rfl rfl rfl rfl rfl rfl (Sat.rowLen S 0 rfl) (Sat.rowHb S 0 rfl hc) fun a fr => ?_
            refine sl_str o_ fr rfl rfl rfl rfl rfl rfl rfl S hp93 ?_
            intro w S
            refine ⟨(Sat.mask S [false]), ?_⟩
            obtain ⟨hc, h⟩ := ifs h
            have hp94 := hc
            refine sl_pe o_ (Sat.rowAt S 0 rfl) fr rfl rfl rfl rfl rfl rfl rfl rfl rfl (Sat.rowLen S 0 rfl) (Sat.rowHb S 0 rfl hc) fun a fr => ?_
            refine sl_str o_ fr rfl rfl rfl rfl rfl rfl rfl S hp94 ?_
            intro w S
            refine ⟨(Sat.mask S [false]), ?_⟩
            refine sl_end ?_
            refine blk_n ?_
            refine r_ rfl ?_
            refine wl_run o_ 3 rfl fr fun a fr => ?_
            refine wpList_nil ?_
            exact ⟨(List.set (List.set l16 (Int.toNat x17) (List.getD l16 (Int.toNat (IntKind.wrap .i64 (x17 - (1 : Int)))) 0)) (Int.toNat (IntKind.wrap .i64 (x17 - (1 : Int)))) (List.getD l16 (Int.toNat x17) 0)), (IntKind.wrap .i64 (x17 - (1 : Int))), fr.sub ⟨rfl, rfl, rfl, rfl, rfl, rfl, trivial⟩, S, h⟩
          ·refine wp_exit ?_
           refine then_e ?_
           refine then_e ?_
           refine blk_y ?_
           exact ⟨k3, l16, fr.sub ⟨rfl, rfl, rfl, rfl, rfl, trivial⟩, S, h⟩
        ·refine wp_skip ?_
         exact ⟨kj2, (List.set (List.set l1 (Int.toNat x9) (List.getD l1 (Int.toNat (IntKind.wrap .i64 (x9 - (1 : Int)))) 0)) (Int.toNat (IntKind.wrap .i64 (x9 - (1 : Int)))) (List.getD l1 (Int.toNat x9) 0)), fr.sub ⟨rfl, rfl, rfl, rfl, rfl, trivial⟩, S, h⟩
       ·rintro a w ⟨kj3, l10, fr, S, h⟩
        rw [pi_.j3] at h
        refine r_ rfl ?_
        refine wl_run o_ 4 rfl fr fun a fr => ?_
        refine e_ ?_
        refine cw_if fr rfl h (fun h => ?_) (fun h => ?_)
        ·refine r_ rfl ?_
         refine wl_run o_ 3 rfl fr fun a fr => ?_
         refine e_ ?_
         refine wp_block ?_
         refine cw_loop (fun k2 a w => ∃ l11 : List Int, ∃ x12 : Int, Fr 133 a [(0, (.slice A0 n0 c0)), (1, (.int .i64 a1)), (2, (.int .i64 a2)), (7, (.int .i64 x9)), (8, (.int .i64 x3)), (10, (.int .i64 x12))] ∧ Sat w0 w (rowA .u32 31 A0 c0 n0 l11 :: R) ∧ (pi_.l2 k2 (pi_.l1 k1 a2 n0 a1) a2 n0 x3 x9 l11 x12) = some r) kj3 ⟨l10, (IntKind.wrap .i64 (x9 + (1 : Int))), fr.sub ⟨rfl, rfl, rfl, rfl, rfl, rfl, trivial⟩, S, h⟩ ?_ ?_
         ·rintro a w ⟨l11, x12, -, -, h⟩
          simp only [pi_.l2] at h
          cases h
         ·rintro k2 a w ⟨l11, x12, fr, S, h⟩
          rw [pi_.l2] at h
          refine r_ rfl ?_
          refine wl_run o_ 3 rfl fr fun a fr => ?_
          refine e_ ?_
          refine cw_if fr rfl h (fun h => ?_) (fun h => ?_)
          ·refine wp_skip ?_
           refine q_ rfl ?_
           refine wp_block ?_
           refine q_ rfl ?_
           refine wp_region_sl [u_ 0 106, u_ 1 107, u_ 2 108, u_ 3 109, u_ 4 110, u_ 5 111, u_ 6 112, u_ 7 113, u_ 8 114, .one (9, false, some 115), u_ 10 116]
            [m_ 106 0 72,
  m_ 107 10 3,
  i_ 108 72 106 107,
  l_ 109 31 108,
  m_ 110 0 72,
  m_ 111 10 3,
  .one ⟨true, some 112, (.binOp .sub 3 (.tmp 111) (.const (.int .i64 1)) 3), 3, none⟩,
  i_ 113 72 110 112,
  l_ 114 31 113,
  .one ⟨false, some 115, (.call { callee := (.value (.func 107)), args := #[(.tmp 109), (.tmp 114)], argTypes := #[31, 31] }), 4, none⟩,
  .one ⟨true, some 116, (.unOp .not 4 (.tmp 115)), 4, none⟩]
            (fun w => Sat w0 w (rowA .u32 31 A0 c0 n0 l11 :: R)) rfl (by kernel_rfl) (by kernel_rfl) (S.drew.mask [true]) ?_
           have S := S.drew
           refine sl_run o_ 2 rfl fr fun a fr => ?_
           obtain ⟨hc, h⟩ := ifs h
           refine sl_ld o_ (fun _ S => Sat.rowAt S 0 rfl) fr rfl rfl rfl rfl rfl rfl rfl rfl rfl rfl rfl rfl rfl rfl rfl rfl (Sat.rowLen S 0 rfl) rfl (Sat.rowHb S 0 rfl hc) (Sat.mask S [true]) fun a fr => ?_
           refine sl_run o_ 3 rfl fr fun a fr => ?_
           obtain ⟨hc, h⟩ := ifs h
           refine sl_ld o_ (fun _ S => Sat.rowAt S 0 rfl) fr rfl rfl rfl rfl rfl rfl rfl rfl rfl rfl rfl rfl rfl rfl rfl rfl (Sat.rowLen S 0 rfl) rfl (Sat.rowHb S 0 rfl hc) (Sat.mask S [true]) fun a fr => ?_
           obtain ⟨r15, hr, h⟩ := bnd h
           refine sl_call fr rfl rfl rfl rfl rfl en107 (Less_uint32.walk (List.getD l11 (Int.toNat x12) 0) (List.getD l11 (Int.toNat (IntKind.wrap .i64 (x12 - (1 : Int)))) 0) (fr.int (d := 109) rfl) (fr.int (d := 114) rfl) S hr) ?_
           rintro _ w ⟨rfl, hv, S⟩
           refine ⟨_, rfl, hv, (Sat.mask S [true]), fun a fr => ?_⟩
           refine sl_run o_ 1 rfl fr fun a fr => ?_
           refine sl_end ?_
           with_reducible refine then_n ?_
           refine cw_if fr rfl h (fun h => ?_) (fun h => ?_)
           ·refine wp_exit ?_
            refine then_e ?_
            refine blk_e rfl ?_
            refine then_e ?_
            refine then_e ?_
            refine blk_y ?_
            refine blk_n ?_
            exact ⟨l11, x9, fr.sub ⟨rfl, rfl, rfl, rfl, rfl, trivial⟩, S, h⟩
           ·refine wp_skip ?_
            with_reducible refine then_n ?_
            refine wp_region_ph [2, 3, 4] [14, 15, 16, 17] [u_ 2 119, u_ 3 120, u_ 4 121] [m_ 119 0 72,
  m_ 120 10 3,
  .one ⟨true, some 121, (.binOp .sub 3 (.tmp 120) (.const (.int .i64 1)) 3), 3, none⟩] [u_ 0 117, u_ 1 118, u_ 5 122, u_ 6 123, u_ 7 124, u_ 8 125, u_ 9 126, u_ 10 127, u_ 11 128, u_ 12 129, u_ 13 130]
             [m_ 117 0 72,
  m_ 118 10 3,
  m_ 122 0 72,
  m_ 123 10 3,
  .one ⟨true, some 124, (.binOp .sub 3 (.tmp 123) (.const (.int .i64 1)) 3), 3, none⟩,
  i_ 125 72 122 124,
  l_ 126 31 125,
  m_ 127 0 72,
  m_ 128 10 3,
  i_ 129 72 127 128,
  l_ 130 31 129]
             [u_ 14 131, .one (15, false, none), u_ 16 132, .one (17, false, none)]
             [i_ 131 72 117 118,
  .one ⟨false, none, (.store 31 (.tmp 131) (.tmp 126)), 0, none⟩,
  i_ 132 72 119 121,
  .one ⟨false, none, (.store 31 (.tmp 132) (.tmp 130)), 0, none⟩]
             (fun w => Sat w0 w (rowA .u32 31 A0 c0 n0 l11 :: R)) (fun w => Sat w0 w (R)) rfl (by kernel_rfl) (by kernel_rfl) (by kernel_rfl) (by kernel_rfl) (S.drew.mask [true]) (fun _ S => S.mask [false]) ?_
            have S := S.drew
            refine sl_run o_ 3 rfl fr fun a fr => ?_
            refine sl_next ?_
            refine sl_run o_ 5 rfl fr fun a fr => ?_
            obtain ⟨hc, h⟩ := ifs h
            refine sl_ld o_ (fun _ S => Sat.rowAt S 0 rfl) fr rfl rfl rfl rfl rfl rfl rfl rfl rfl rfl rfl rfl rfl rfl rfl rfl (Sat.rowLen S 0 rfl) rfl (Sat.rowHb S 0 rfl hc) (Sat.mask S [true]) fun a fr => ?_
            refine sl_run o_ 2 rfl fr fun a fr => ?_
            obtain ⟨hc, h⟩ := ifs h
            refine sl_ld o_ (fun _ S => Sat.rowAt S 0 rfl) fr rfl rfl rfl rfl rfl rfl rfl rfl rfl rfl rfl rfl rfl rfl rfl rfl (Sat.rowLen S 0 rfl) rfl (Sat.rowHb S 0 rfl hc) (Sat.mask S [true]) fun a fr => ?_
            refine sl_next ?_
            obtain ⟨hc, h⟩ := ifs h
            have hp131 := hc
            refine sl_pe o_ (Sat.rowAt S 0 rfl) fr rfl rfl rfl rfl rfl rfl rfl rfl rfl (Sat.rowLen S 0 rfl) (Sat.rowHb S 0 rfl hc) fun a fr => ?_
            refine sl_str o_ fr rfl rfl rfl rfl rfl rfl rfl S hp131 ?_
            intro w S
            refine ⟨(Sat.mask S [false]), ?_⟩
            obtain ⟨hc, h⟩ := ifs h
            have hp132 := hc
            refine sl_pe o_ (Sat.rowAt S 0 rfl) fr rfl rfl rfl rfl rfl rfl rfl rfl rfl (Sat.rowLen S 0 rfl) (Sat.rowHb S 0 rfl hc) fun a fr => ?_
            refine sl_str o_ fr rfl rfl rfl rfl rfl rfl rfl S hp132 ?_
            intro w S
            refine ⟨(Sat.mask S [false]), ?_⟩
            refine sl_end ?_
            refine blk_n ?_
            refine r_ rfl ?_
            refine wl_run o_ 3 rfl fr fun a fr => ?_
            refine wpList_nil ?_
            exact ⟨(List.set (List.set l11 (Int.toNat x12) (List.getD l11 (Int.toNat (IntKind.wrap .i64 (x12 - (1 : Int)))) 0)) (Int.toNat (IntKind.wrap .i64 (x12 - (1 : Int)))) (List.getD l11 (Int.toNat x12) 0)), (IntKind.wrap .i64 (x12 + (1 : Int))), fr.sub ⟨rfl, rfl, rfl, rfl, rfl, rfl, trivial⟩, S, h⟩
          ·refine wp_exit ?_
           refine then_e ?_
           refine then_e ?_
           refine blk_y ?_
           refine blk_n ?_
           exact ⟨l11, x9, fr.sub ⟨rfl, rfl, rfl, rfl, rfl, trivial⟩, S, h⟩
        ·refine wp_skip ?_
         refine blk_n ?_
         exact ⟨l10, x9, fr.sub ⟨rfl, rfl, rfl, rfl, rfl, trivial⟩, S, h⟩
   ·rintro a w ⟨l7, x8, fr, S, h⟩
    rw [pi_.j1] at h
    refine wp_region_lit ?_
    refine wl_run o_ 3 rfl fr fun a fr => ?_
    refine wpList_nil ?_
    exact ⟨l7, x8, (IntKind.wrap .i64 (x3 + (1 : Int))), fr.sub ⟨rfl, rfl, rfl, rfl, rfl, trivial⟩, S, h⟩
  ·refine wp_exit ?_
   refine then_e ?_
   refine then_e ?_
   refine blk_y ?_
   refine r_ rfl ?_
   refine wl_run o_ 1 rfl fr fun a fr => ?_
   refine e_ ?_
   refine wp_ret ?_
   injection h with h
   subst h
   refine ret1 fr rfl rfl ?_
   exact ⟨rfl, fr.vok (d := 6) rfl, S.mask [true]⟩
theorem pe_.walk (k : Nat) (A0 : Option Addr) (c0 n0 : Nat) (l0 : List Int) (a1 : Int) (a2 : Int) (a3 : Int) {w0 w : World} {R : List Asn} (m0 : n0 ≤ c0 ∧ c0 ≤ maxLen) (v1 : (Lit.int .i64 a1).wf = true) (v2 : (Lit.int .i64 a2).wf = true) (v3 : (Lit.int .i64 a3).wf = true) (S : Sat w0 w (rowA .u32 31 A0 c0 n0 l0 :: R)) {r : Int × List Int} (h : pe_.f k n0 l0 a1 a2 a3 = some r) :
  Calls Tryz.prog 108 #[(.slice A0 n0 c0), (.int .i64 a1), (.int .i64 a2), (.int .i64 a3)] w fun e w' => e = .returned (.int .i64 r.1) ∧ vok (.int .i64 r.1) = true ∧ Sat w0 w' (rowA .u32 31 A0 c0 n0 r.2 :: R) := by
 unfold pe_.f at h
 refine calls_start (N := 84) [(.slice A0 n0 c0), (.int .i64 a1), (.int .i64 a2), (.int .i64 a3)] Tryz.func108 rfl rfl rfl (vok_c (vok_sl m0) (vok_c v1 (vok_c v2 (vok_c v3 rfl)))) fun a fr => ?_
 refine r_ rfl ?_
 refine wl_run o_ 1 rfl fr fun a fr => ?_
 refine eq_ rfl rfl ?_
 refine wp_region_ph [2, 3] [12, 13, 14, 15] [u_ 2 13, u_ 3 14] [m_ 13 0 72,
  m_ 14 3 3] [u_ 0 11, u_ 1 12, u_ 4 15, u_ 5 16, u_ 6 17, u_ 7 18, u_ 8 19, u_ 9 20, u_ 10 21, u_ 11 22]
  [m_ 11 0 72,
  m_ 12 1 3,
  m_ 15 0 72,
  m_ 16 3 3,
  i_ 17 72 15 16,
  l_ 18 31 17,
  m_ 19 0 72,
  m_ 20 1 3,
  i_ 21 72 19 20,
  l_ 22 31 21]
  [u_ 12 23, .one (13, false, none), u_ 14 24, .one (15, false, none)]
  [i_ 23 72 11 12,
  .one ⟨false, none, (.store 31 (.tmp 23) (.tmp 18)), 0, none⟩,
  i_ 24 72 13 14,
  .one ⟨false, none, (.store 31 (.tmp 24) (.tmp 22)), 0, none⟩]
  (fun w => Sat w0 w (rowA .u32 31 A0 c0 n0 l0 :: R)) (fun w => Sat w0 w (R)) rfl (by kernel_rfl) (by kernel_rfl) (by kernel_rfl) (by kernel_rfl) (S.drew.mask [true]) (fun _ S => S.mask [false]) ?_
 have S := S.drew
 refine sl_run o_ 2 rfl fr fun a fr => ?_
 refine sl_next ?_
 refine sl_run o_ 4 rfl fr fun a fr => ?_
 obtain ⟨hc, h⟩ := ifs h
 refine sl_ld o_ (fun _ S => Sat.rowAt S 0 rfl) fr rfl rfl rfl rfl rfl rfl rfl rfl rfl rfl rfl rfl rfl rfl rfl rfl (Sat.rowLen S 0 rfl) rfl (Sat.rowHb S 0 rfl hc) (Sat.mask S [true]) fun a fr => ?_
 refine sl_run o_ 2 rfl fr fun a fr => ?_
 obtain ⟨hc, h⟩ := ifs h
 refine sl_ld o_ (fun _ S => Sat.rowAt S 0 rfl) fr rfl rfl rfl rfl rfl rfl rfl rfl rfl rfl rfl rfl rfl rfl rfl rfl (Sat.rowLen S 0 rfl) rfl (Sat.rowHb S 0 rfl hc) (Sat.mask S [true]) fun a fr => ?_
 refine sl_next ?_
 obtain ⟨hc, h⟩ := ifs h
 have hp23 := hc
 refine sl_pe o_ (Sat.rowAt S 0 rfl) fr rfl rfl rfl rfl rfl rfl rfl rfl rfl (Sat.rowLen S 0 rfl) (Sat.rowHb S 0 rfl hc) fun a fr => ?_
 refine sl_str o_ fr rfl rfl rfl rfl rfl rfl rfl S hp23 ?_
 intro w S
 refine ⟨(Sat.mask S [false]), ?_⟩
 obtain ⟨hc, h⟩ := ifs h
 have hp24 := hc
 refine sl_pe o_ (Sat.rowAt S 0 rfl) fr rfl rfl rfl rfl rfl rfl rfl rfl rfl (Sat.rowLen S 0 rfl) (Sat.rowHb S 0 rfl hc) fun a fr => ?_
 refine sl_str o_ fr rfl rfl rfl rfl rfl rfl rfl S hp24 ?_
 intro w S
 refine ⟨(Sat.mask S [false]), ?_⟩
 refine sl_end ?_
 refine r_ rfl ?_
 refine wl_run o_ 6 rfl fr fun a fr => ?_
 refine eq_ rfl rfl ?_
 refine wp_block ?_
 refine cw_loop (fun k1 a w => ∃ l1 : List Int, ∃ x2 : Int, ∃ x3 : Int, Fr 84 a [(0, (.slice A0 n0 c0)), (1, (.int .i64 a1)), (9, (.int .i64 x2)), (10, (.int .i64 x3))] ∧ Sat w0 w (rowA .u32 31 A0 c0 n0 l1 :: R) ∧ (pe_.l1 k1 a1 n0 l1 x2 x3) = some r) k ⟨(List.set (List.set l0 (Int.toNat a1) (List.getD l0 (Int.toNat a3) 0)) (Int.toNat a3) (List.getD l0 (Int.toNat a1) 0)), (IntKind.wrap .i64 (a1 + (1 : Int))), (IntKind.wrap .i64 (a2 - (1 : Int))), fr.sub ⟨rfl, rfl, rfl, rfl, trivial⟩, S, h⟩ ?_ ?_
 ·rintro a w ⟨l1, x2, x3, -, -, h⟩
  simp only [pe_.l1] at h
  cases h
 ·rintro k1 a w ⟨l1, x2, x3, fr, S, h⟩
  rw [pe_.l1] at h
  refine wp_block ?_
  refine cw_cut (fun a w => ∃ kj1 : Nat, ∃ x7 : Int, Fr 84 a [(0, (.slice A0 n0 c0)), (1, (.int .i64 a1)), (9, (.int .i64 x7)), (10, (.int .i64 x3))] ∧ Sat w0 w (rowA .u32 31 A0 c0 n0 l1 :: R) ∧ (pe_.j1 kj1 (pe_.l1 k1 a1 n0) a1 n0 l1 x3 x7) = some r) ?_ ?_
  ·refine wp_block ?_
   refine cw_loop (fun k3 a w => ∃ x12 : Int, Fr 84 a [(0, (.slice A0 n0 c0)), (1, (.int .i64 a1)), (9, (.int .i64 x12)), (10, (.int .i64 x3))] ∧ Sat w0 w (rowA .u32 31 A0 c0 n0 l1 :: R) ∧ (pe_.l3 k3 (pe_.l1 k1 a1 n0) x3 a1 n0 l1 x12) = some r) k1 ⟨x2, fr.sub ⟨rfl, rfl, rfl, rfl, trivial⟩, S, h⟩ ?_ ?_
   ·rintro a w ⟨x12, -, -, h⟩
    simp only [pe_.l3] at h
    cases h
   ·rintro k3 a w ⟨x12, fr, S, h⟩
    rw [pe_.l3] at h
    refine q_ rfl ?_
    refine wp_region_sl [u_ 0 29, u_ 1 30, u_ 2 31, u_ 3 32, u_ 4 33, u_ 5 34, u_ 6 35, u_ 7 36, u_ 8 37, u_ 9 38, u_ 10 39, u_ 11 40, .one (12, false, some 41), u_ 13 42, u_ 14 43]
     [m_ 29 9 3,
  m_ 30 10 3,
  .one ⟨true, some 31, (.binOp .leq 3 (.tmp 29) (.tmp 30) 3), 4, none⟩,
  m_ 32 31 4,
  .one ⟨true, some 33, (.move (.tmp 0)), 72, some (32, true)⟩,
  .one ⟨true, some 34, (.move (.tmp 1)), 3, some (32, true)⟩,
  .one ⟨true, some 35, (.indexAddr 72 (.tmp 33) (.tmp 34)), 0, some (32, true)⟩,
  .one ⟨true, some 36, (.load 31 (.tmp 35)), 31, some (32, true)⟩,
  .one ⟨true, some 37, (.move (.tmp 0)), 72, some (32, true)⟩,
  .one ⟨true, some 38, (.move (.tmp 9)), 3, some (32, true)⟩,
  .one ⟨true, some 39, (.indexAddr 72 (.tmp 37) (.tmp 38)), 0, some (32, true)⟩,
  .one ⟨true, some 40, (.load 31 (.tmp 39)), 31, some (32, true)⟩,
  .one ⟨false, some 41, (.call { callee := (.value (.func 107)), args := #[(.tmp 36), (.tmp 40)], argTypes := #[31, 31] }), 4, some (32, true)⟩,
  .one ⟨true, some 42, (.unOp .not 4 (.tmp 41)), 4, some (32, true)⟩,
  .one ⟨true, some 43, (.pick (.tmp 32) (.tmp 42) (.const (.bool false))), 4, none⟩]
     (fun w => Sat w0 w (rowA .u32 31 A0 c0 n0 l1 :: R)) rfl (by kernel_rfl) (by kernel_rfl) (S.drew.mask [true]) ?_
    have S := S.drew
    refine sl_run o_ 4 rfl fr fun a fr => ?_
    refine sl_split 32 fr rfl h (fun fr h => ?_) (fun fr h => ?_)
    ·refine sl_run o_ 2 rfl fr fun a fr => ?_
     obtain ⟨hc, h⟩ := ifs h
     refine sl_ld o_ (fun _ S => Sat.rowAt S 0 rfl) fr rfl rfl rfl rfl rfl rfl rfl rfl rfl rfl rfl rfl rfl rfl rfl rfl (Sat.rowLen S 0 rfl) rfl (Sat.rowHb S 0 rfl hc) (Sat.mask S [true]) fun a fr => ?_
     refine sl_run o_ 2 rfl fr fun a fr => ?_
     obtain ⟨hc, h⟩ := ifs h
     refine sl_ld o_ (fun _ S => Sat.rowAt S 0 rfl) fr rfl rfl rfl rfl rfl rfl rfl rfl rfl rfl rfl rfl rfl rfl rfl rfl (Sat.rowLen S 0 rfl) rfl (Sat.rowHb S 0 rfl hc) (Sat.mask S [true]) fun a fr => ?_
     obtain ⟨r14, hr, h⟩ := bnd h
     refine sl_call fr rfl rfl rfl rfl rfl en107 (Less_uint32.walk (List.getD l1 (Int.toNat a1) 0) (List.getD l1 (Int.toNat x12) 0) (fr.int (d := 36) rfl) (fr.int (d := 40) rfl) S hr) ?_
     rintro _ w ⟨rfl, hv, S⟩
     refine ⟨_, rfl, hv, (Sat.mask S [true]), fun a fr => ?_⟩
     refine sl_run o_ 2 rfl fr fun a fr => ?_
     refine sl_end ?_
     with_reducible refine then_n ?_
     refine cw_if fr rfl h (fun h => ?_) (fun h => ?_)
     ·refine wp_skip ?_
      with_reducible refine then_n ?_
      refine wp_block ?_
      refine wp_region_lit ?_
      refine wl_run o_ 3 rfl fr fun a fr => ?_
      refine wpList_nil ?_
      refine blk_n ?_
      exact ⟨(IntKind.wrap .i64 (x12 + (1 : Int))), fr.sub ⟨rfl, rfl, rfl, rfl, trivial⟩, S, h⟩
     ·refine wp_exit ?_
      refine then_e ?_
      refine then_e ?_
      refine blk_y ?_
      exact ⟨k3, x12, fr.sub ⟨rfl, rfl, rfl, rfl, trivial⟩, S, h⟩
    ·refine sl_run o_ 8 rfl fr fun a fr => ?_
     refine sl_no fr rfl (Sat.mask S [true]) rfl rfl fun a fr => ?_
     refine sl_run o_ 2 rfl fr fun a fr => ?_
     refine sl_end ?_
     with_reducible refine then_n ?_
     refine cw_f fr rfl ?_
     refine wp_exit ?_
     refine then_e ?_
     refine then_e ?_
     refine blk_y ?_
     exact ⟨k3, x12, fr.sub ⟨rfl, rfl, rfl, rfl, trivial⟩, S, h⟩
  ·rintro a w ⟨kj1, x7, fr, S, h⟩
   rw [pe_.j1] at h
   refine cw_cut (fun a w => ∃ x8 : Int, Fr 84 a [(0, (.slice A0 n0 c0)), (1, (.int .i64 a1)), (9, (.int .i64 x7)), (10, (.int .i64 x8))] ∧ Sat w0 w (rowA .u32 31 A0 c0 n0 l1 :: R) ∧ (pe_.j2 (pe_.l1 k1 a1 n0) x7 l1 n0 x8) = some r) ?_ ?_
   ·refine wp_block ?_
    refine cw_loop (fun k2 a w => ∃ x9 : Int, Fr 84 a [(0, (.slice A0 n0 c0)), (1, (.int .i64 a1)), (9, (.int .i64 x7)), (10, (.int .i64 x9))] ∧ Sat w0 w (rowA .u32 31 A0 c0 n0 l1 :: R) ∧ (pe_.l2 k2 (pe_.l1 k1 a1 n0) x7 a1 n0 l1 x9) = some r) kj1 ⟨x3, fr.sub ⟨rfl, rfl, rfl, rfl, trivial⟩, S, h⟩ ?_ ?_
    ·rintro a w ⟨x9, -, -, h⟩
     simp only [pe_.l2] at h
     cases h
    ·rintro k2 a w ⟨x9, fr, S, h⟩
     rw [pe_.l2] at h
     refine q_ rfl ?_
     refine wp_region_sl [u_ 0 46, u_ 1 47, u_ 2 48, u_ 3 49, u_ 4 50, u_ 5 51, u_ 6 52, u_ 7 53, u_ 8 54, u_ 9 55, u_ 10 56, u_ 11 57, .one (12, false, some 58), u_ 13 59]
      [m_ 46 9 3,
  m_ 47 10 3,
  .one ⟨true, some 48, (.binOp .leq 3 (.tmp 46) (.tmp 47) 3), 4, none⟩,
  m_ 49 48 4,
  .one ⟨true, some 50, (.move (.tmp 0)), 72, some (49, true)⟩,
  .one ⟨true, some 51, (.move (.tmp 1)), 3, some (49, true)⟩,
  .one ⟨true, some 52, (.indexAddr 72 (.tmp 50) (.tmp 51)), 0, some (49, true)⟩,
  .one ⟨true, some 53, (.load 31 (.tmp 52)), 31, some (49, true)⟩,
  .one ⟨true, some 54, (.move (.tmp 0)), 72, some (49, true)⟩,
  .one ⟨true, some 55, (.move (.tmp 10)), 3, some (49, true)⟩,
  .one ⟨true, some 56, (.indexAddr 72 (.tmp 54) (.tmp 55)), 0, some (49, true)⟩,
  .one ⟨true, some 57, (.load 31 (.tmp 56)), 31, some (49, true)⟩,
  .one ⟨false, some 58, (.call { callee := (.value (.func 107)), args := #[(.tmp 53), (.tmp 57)], argTypes := #[31, 31] }), 4, some (49, true)⟩,
  .one ⟨true, some 59, (.pick (.tmp 49) (.tmp 58) (.const (.bool false))), 4, none⟩]
      (fun w => Sat w0 w (rowA .u32 31 A0 c0 n0 l1 :: R)) rfl (by kernel_rfl) (by kernel_rfl) (S.drew.mask [true]) ?_
     have S := S.drew
     refine sl_run o_ 4 rfl fr fun a fr => ?_
     refine sl_split 49 fr rfl h (fun fr h => ?_) (fun fr h => ?_)
     ·refine sl_run o_ 2 rfl fr fun a fr => ?_
      obtain ⟨hc, h⟩ := ifs h
      refine sl_ld o_ (fun _ S => Sat.rowAt S 0 rfl) fr rfl rfl rfl rfl rfl rfl rfl rfl rfl rfl rfl rfl rfl rfl rfl rfl (Sat.rowLen S 0 rfl) rfl (Sat.rowHb S 0 rfl hc) (Sat.mask S [true]) fun a fr => ?_
      refine sl_run o_ 2 rfl fr fun a fr => ?_
      obtain ⟨hc, h⟩ := ifs h
      refine sl_ld o_ (fun _ S => Sat.rowAt S 0 rfl) fr rfl rfl rfl rfl rfl rfl rfl rfl rfl rfl rfl rfl rfl rfl rfl rfl (Sat.rowLen S 0 rfl) rfl (Sat.rowHb S 0 rfl hc) (Sat.mask S [true]) fun a fr => ?_
      obtain ⟨r11, hr, h⟩ := bnd h
      refine sl_call fr rfl rfl rfl rfl rfl en107 (Less_uint32.walk (List.getD l1 (Int.toNat a1) 0) (List.getD l1 (Int.toNat x9) 0) (fr.int (d := 53) rfl) (fr.int (d := 57) rfl) S hr) ?_
      rintro _ w ⟨rfl, hv, S⟩
      refine ⟨_, rfl, hv, (Sat.mask S [true]), fun a fr => ?_⟩
      refine sl_run o_ 1 rfl fr fun a fr => ?_
      refine sl_end ?_
      with_reducible refine then_n ?_
      refine cw_if fr rfl h (fun h => ?_) (fun h => ?_)
      ·refine wp_skip ?_
       with_reducible refine then_n ?_
       refine wp_block ?_
       refine wp_region_lit ?_
       refine wl_run o_ 3 rfl fr fun a fr => ?_
       refine wpList_nil ?_
       refine blk_n ?_
       exact ⟨(IntKind.wrap .i64 (x9 - (1 : Int))), fr.sub ⟨rfl, rfl, rfl, rfl, trivial⟩, S, h⟩
      ·refine wp_exit ?_
       refine then_e ?_
       refine then_e ?_
       refine blk_y ?_
       exact ⟨x9, fr.sub ⟨rfl, rfl, rfl, rfl, trivial⟩, S, h⟩
     ·refine sl_run o_ 8 rfl fr fun a fr => ?_
      refine sl_no fr rfl (Sat.mask S [true]) rfl rfl fun a fr => ?_
      refine sl_run o_ 1 rfl fr fun a fr => ?_
      refine sl_end ?_
      with_reducible refine then_n ?_
      refine cw_f fr rfl ?_
      refine wp_exit ?_
      refine then_e ?_
      refine then_e ?_
      refine blk_y ?_
      exact ⟨x9, fr.sub ⟨rfl, rfl, rfl, rfl, trivial⟩, S, h⟩
   ·rintro a w ⟨x8, fr, S, h⟩
    rw [pe_.j2] at h
    refine r_ rfl ?_
    refine wl_run o_ 3 rfl fr fun a fr => ?_
    refine e_ ?_
    refine cw_if fr rfl h (fun h => ?_) (fun h => ?_)
    ·refine wp_exit ?_
     refine then_e ?_
     refine blk_e rfl ?_
     refine then_e ?_
     refine blk_y ?_
     refine r_ rfl ?_
     refine wl_run o_ 2 rfl fr fun a fr => ?_
     refine e_ ?_
     refine wp_ret ?_
     injection h with h
     subst h
     refine ret1 fr rfl rfl ?_
     exact ⟨rfl, fr.vok (d := 8) rfl, S.mask [true]⟩
    ·refine wp_skip ?_
     refine q_ rfl ?_
     refine wp_region_ph [2, 3] [12, 13, 14, 15] [u_ 2 67, u_ 3 68] [m_ 67 0 72,
  m_ 68 10 3] [u_ 0 65, u_ 1 66, u_ 4 69, u_ 5 70, u_ 6 71, u_ 7 72, u_ 8 73, u_ 9 74, u_ 10 75, u_ 11 76]
      [m_ 65 0 72,
  m_ 66 9 3,
  m_ 69 0 72,
  m_ 70 10 3,
  i_ 71 72 69 70,
  l_ 72 31 71,
  m_ 73 0 72,
  m_ 74 9 3,
  i_ 75 72 73 74,
  l_ 76 31 75]
      [u_ 12 77, .one (13, false, none), u_ 14 78, .one (15, false, none)]
      [i_ 77 72 65 66,
  .one ⟨false, none, (.store 31 (.tmp 77) (.tmp 72)), 0, none⟩,
  i_ 78 72 67 68,
  .one ⟨false, none, (.store 31 (.tmp 78) (.tmp 76)), 0, none⟩]
      (fun w => Sat w0 w (rowA .u32 31 A0 c0 n0 l1 :: R)) (fun w => Sat w0 w (R)) rfl (by kernel_rfl) (by kernel_rfl) (by kernel_rfl) (by kernel_rfl) (S.drew.mask [true]) (fun _ S => S.mask [false]) ?_
     have S := S.drew
     refine sl_run o_ 2 rfl fr fun a fr => ?_
     refine sl_next ?_
     refine sl_run o_ 4 rfl fr fun a fr => ?_
     obtain ⟨hc, h⟩ := ifs h
     refine sl_ld o_ (fun _ S => Sat.rowAt S 0 rfl) fr rfl rfl rfl rfl rfl rfl rfl rfl rfl rfl rfl rfl rfl rfl rfl rfl (Sat.rowLen S 0 rfl) rfl (Sat.rowHb S 0 rfl hc) (Sat.mask S [true]) fun a fr => ?_
     refine sl_run o_ 2 rfl fr fun a fr => ?_
     obtain ⟨hc, h⟩ := ifs h
     refine sl_ld o_ (fun _ S => Sat.rowAt S 0 rfl) fr rfl rfl rfl rfl rfl rfl rfl rfl rfl rfl rfl rfl rfl rfl rfl rfl (Sat.rowLen S 0 rfl) rfl (Sat.rowHb S 0 rfl hc) (Sat.mask S [true]) fun a fr => ?_
     refine sl_next ?_
     obtain ⟨hc, h⟩ := ifs h
     have hp77 := hc
     refine sl_pe o_ (Sat.rowAt S 0 rfl) fr rfl rfl rfl rfl rfl rfl rfl rfl rfl (Sat.rowLen S 0 rfl) (Sat.rowHb S 0 rfl hc) fun a fr => ?_
     refine sl_str o_ fr rfl rfl rfl rfl rfl rfl rfl S hp77 ?_
     intro w S
     refine ⟨(Sat.mask S [false]), ?_⟩
     obtain ⟨hc, h⟩ := ifs h
     have hp78 := hc
     refine sl_pe o_ (Sat.rowAt S 0 rfl) fr rfl rfl rfl rfl rfl rfl rfl rfl rfl (Sat.rowLen S 0 rfl) (Sat.rowHb S 0 rfl hc) fun a fr => ?_
     refine sl_str o_ fr rfl rfl rfl rfl rfl rfl rfl S hp78 ?_
     intro w S
     refine ⟨(Sat.mask S [false]), ?_⟩
     refine sl_end ?_
     refine r_ rfl ?_
     refine wl_run o_ 3 rfl fr fun a fr => ?_
     refine er_ rfl rfl ?_
     refine wl_run o_ 3 rfl fr fun a fr => ?_
     refine wpList_nil ?_
     refine blk_n ?_
     exact ⟨(List.set (List.set l1 (Int.toNat x7) (List.getD l1 (Int.toNat x8) 0)) (Int.toNat x8) (List.getD l1 (Int.toNat x7) 0)), (IntKind.wrap .i64 (x7 + (1 : Int))), (IntKind.wrap .i64 (x8 - (1 : Int))), fr.sub ⟨rfl, rfl, rfl, rfl, trivial⟩, S, h⟩
theorem pt_.walk (k : Nat) (A0 : Option Addr) (c0 n0 : Nat) (l0 : List Int) (a1 : Int) (a2 : Int) (a3 : Int) {w0 w : World} {R : List Asn} (m0 : n0 ≤ c0 ∧ c0 ≤ maxLen) (v1 : (Lit.int .i64 a1).wf = true) (v2 : (Lit.int .i64 a2).wf = true) (v3 : (Lit.int .i64 a3).wf = true) (S : Sat w0 w (rowA .u32 31 A0 c0 n0 l0 :: R)) {r : Int × Bool × List Int} (h : pt_.f k n0 l0 a1 a2 a3 = some r) :
  Calls Tryz.prog 109 #[(.slice A0 n0 c0), (.int .i64 a1), (.int .i64 a2), (.int .i64 a3)] w fun e w' => e = .returned (.tuple #[(.int .i64 r.1), (.bool r.2.1)]) ∧ vok (.tuple #[(.int .i64 r.1), (.bool r.2.1)]) = true ∧ Sat w0 w' (rowA .u32 31 A0 c0 n0 r.2.2 :: R) := by
 unfold pt_.f at h
 refine calls_start (N := 168) [(.slice A0 n0 c0), (.int .i64 a1), (.int .i64 a2), (.int .i64 a3)] Tryz.func109 rfl rfl rfl (vok_c (vok_sl m0) (vok_c v1 (vok_c v2 (vok_c v3 rfl)))) fun a fr => ?_
 refine r_ rfl ?_
 refine wl_run o_ 2 rfl fr fun a fr => ?_
 refine eq_ rfl rfl ?_
 refine wp_region_ph [2, 3] [12, 13, 14, 15] [u_ 2 14, u_ 3 15] [m_ 14 0 72,
  m_ 15 3 3] [u_ 0 12, u_ 1 13, u_ 4 16, u_ 5 17, u_ 6 18, u_ 7 19, u_ 8 20, u_ 9 21, u_ 10 22, u_ 11 23]
  [m_ 12 0 72,
  m_ 13 1 3,
  m_ 16 0 72,
  m_ 17 3 3,
  i_ 18 72 16 17,
  l_ 19 31 18,
  m_ 20 0 72,
  m_ 21 1 3,
  i_ 22 72 20 21,
  l_ 23 31 22]
  [u_ 12 24, .one (13, false, none), u_ 14 25, .one (15, false, none)]
  [i_ 24 72 12 13,
  .one ⟨false, none, (.store 31 (.tmp 24) (.tmp 19)), 0, none⟩,
  i_ 25 72 14 15,
  .one ⟨false, none, (.store 31 (.tmp 25) (.tmp 23)), 0, none⟩]
  (fun w => Sat w0 w (rowA .u32 31 A0 c0 n0 l0 :: R)) (fun w => Sat w0 w (R)) rfl (by kernel_rfl) (by kernel_rfl) (by kernel_rfl) (by kernel_rfl) (S.drew.mask [true]) (fun _ S => S.mask [false]) ?_
 have S := S.drew
 refine sl_run o_ 2 rfl fr fun a fr => ?_
 refine sl_next ?_
 refine sl_run o_ 4 rfl fr fun a fr => ?_
 obtain ⟨hc, h⟩ := ifs h
 refine sl_ld o_ (fun _ S => Sat.rowAt S 0 rfl) fr rfl rfl rfl rfl rfl rfl rfl rfl rfl rfl rfl rfl rfl rfl rfl rfl (Sat.rowLen S 0 rfl) rfl (Sat.rowHb S 0 rfl hc) (Sat.mask S [true]) fun a fr => ?_
 refine sl_run o_ 2 rfl fr fun a fr => ?_
 obtain ⟨hc, h⟩ := ifs h
 refine sl_ld o_ (fun _ S => Sat.rowAt S 0 rfl) fr rfl rfl rfl rfl rfl rfl rfl rfl rfl rfl rfl rfl rfl rfl rfl rfl (Sat.rowLen S 0 rfl) rfl (Sat.rowHb S 0 rfl hc) (Sat.mask S [true]) fun a fr => ?_
 refine sl_next ?_
 obtain ⟨hc, h⟩ := ifs h
 have hp24 := hc
 refine sl_pe o_ (Sat.rowAt S 0 rfl) fr rfl rfl rfl rfl rfl rfl rfl rfl rfl (Sat.rowLen S 0 rfl) (Sat.rowHb S 0 rfl hc) fun a fr => ?_
 refine sl_str o_ fr rfl rfl rfl rfl rfl rfl rfl S hp24 ?_
 intro w S
 refine ⟨(Sat.mask S [false]), ?_⟩
 obtain ⟨hc, h⟩ := ifs h
 have hp25 := hc
 refine sl_pe o_ (Sat.rowAt S 0 rfl) fr rfl rfl rfl rfl rfl rfl rfl rfl rfl (Sat.rowLen S 0 rfl) (Sat.rowHb S 0 rfl hc) fun a fr => ?_
 refine sl_str o_ fr rfl rfl rfl rfl rfl rfl rfl S hp25 ?_
 intro w S
 refine ⟨(Sat.mask S [false]), ?_⟩
 refine sl_end ?_
 refine r_ rfl ?_
 refine wl_run o_ 6 rfl fr fun a fr => ?_
 refine e_ ?_
 refine cw_cut (fun a w => ∃ kj1 : Nat, ∃ x1 : Int, Fr 168 a [(0, (.slice A0 n0 c0)), (1, (.int .i64 a1)), (10, (.int .i64 x1)), (11, (.int .i64 (IntKind.wrap .i64 (a2 - (1 : Int)))))] ∧ Sat w0 w (rowA .u32 31 A0 c0 n0 (List.set (List.set l0 (Int.toNat a1) (List.getD l0 (Int.toNat a3) 0)) (Int.toNat a3) (List.getD l0 (Int.toNat a1) 0)) :: R) ∧ (pt_.j1 kj1 n0 a1 l0 a3 a2 x1) = some r) ?_ ?_
 ·refine wp_block ?_
  refine cw_loop (fun k5 a w => ∃ x20 : Int, Fr 168 a [(0, (.slice A0 n0 c0)), (1, (.int .i64 a1)), (10, (.int .i64 x20)), (11, (.int .i64 (IntKind.wrap .i64 (a2 - (1 : Int)))))] ∧ Sat w0 w (rowA .u32 31 A0 c0 n0 (List.set (List.set l0 (Int.toNat a1) (List.getD l0 (Int.toNat a3) 0)) (Int.toNat a3) (List.getD l0 (Int.toNat a1) 0)) :: R) ∧ (pt_.l5 k5 a2 n0 a1 l0 a3 x20) = some r) k ⟨(IntKind.wrap .i64 (a1 + (1 : Int))), fr.sub ⟨rfl, rfl, rfl, rfl, trivial⟩, S, h⟩ ?_ ?_
  ·rintro a w ⟨x20, -, -, h⟩
   simp only [pt_.l5] at h
   cases h
  ·rintro k5 a w ⟨x20, fr, S, h⟩
   rw [pt_.l5] at h
   refine q_ rfl ?_
   refine wp_region_sl [u_ 0 30, u_ 1 31, u_ 2 32, u_ 3 33, u_ 4 34, u_ 5 35, u_ 6 36, u_ 7 37, u_ 8 38, u_ 9 39, u_ 10 40, u_ 11 41, .one (12, false, some 42), u_ 13 43]
    [m_ 30 10 3,
  m_ 31 11 3,
  .one ⟨true, some 32, (.binOp .leq 3 (.tmp 30) (.tmp 31) 3), 4, none⟩,
  m_ 33 32 4,
  .one ⟨true, some 34, (.move (.tmp 0)), 72, some (33, true)⟩,
  .one ⟨true, some 35, (.move (.tmp 10)), 3, some (33, true)⟩,
  .one ⟨true, some 36, (.indexAddr 72 (.tmp 34) (.tmp 35)), 0, some (33, true)⟩,
  .one ⟨true, some 37, (.load 31 (.tmp 36)), 31, some (33, true)⟩,
  .one ⟨true, some 38, (.move (.tmp 0)), 72, some (33, true)⟩,
  .one ⟨true, some 39, (.move (.tmp 1)), 3, some (33, true)⟩,
  .one ⟨true, some 40, (.indexAddr 72 (.tmp 38) (.tmp 39)), 0, some (33, true)⟩,
  .one ⟨true, some 41, (.load 31 (.tmp 40)), 31, some (33, true)⟩,
  .one ⟨false, some 42, (.call { callee := (.value (.func 107)), args := #[(.tmp 37), (.tmp 41)], argTypes := #[31, 31] }), 4, some (33, true)⟩,
  .one ⟨true, some 43, (.pick (.tmp 33) (.tmp 42) (.const (.bool false))), 4, none⟩]
    (fun w => Sat w0 w (rowA .u32 31 A0 c0 n0 (List.set (List.set l0 (Int.toNat a1) (List.getD l0 (Int.toNat a3) 0)) (Int.toNat a3) (List.getD l0 (Int.toNat a1) 0)) :: R)) rfl (by kernel_rfl) (by kernel_rfl) (S.drew.mask [true]) ?_
   have S := S.drew
   refine sl_run o_ 4 rfl fr fun a fr => ?_
   refine sl_split 33 fr rfl h (fun fr h => ?_) (fun fr h => ?_)
   ·refine sl_run o_ 2 rfl fr fun a fr => ?_
    obtain ⟨hc, h⟩ := ifs h
    refine sl_ld o_ (fun _ S => Sat.rowAt S 0 rfl) fr rfl rfl rfl rfl rfl rfl rfl rfl rfl rfl rfl rfl rfl rfl rfl rfl (Sat.rowLen S 0 rfl) rfl (Sat.rowHb S 0 rfl hc) (Sat.mask S [true]) fun a fr => ?_
    refine sl_run o_ 2 rfl fr fun a fr => ?_
    obtain ⟨hc, h⟩ := ifs h
    refine sl_ld o_ (fun _ S => Sat.rowAt S 0 rfl) fr rfl rfl rfl rfl rfl rfl rfl rfl rfl rfl rfl rfl rfl rfl rfl rfl (Sat.rowLen S 0 rfl) rfl (Sat.rowHb S 0 rfl hc) (Sat.mask S [true]) fun a fr => ?_
    obtain ⟨r22, hr, h⟩ := bnd h
    refine sl_call fr rfl rfl rfl rfl rfl en107 (Less_uint32.walk (List.getD (List.set (List.set l0 (Int.toNat a1) (List.getD l0 (Int.toNat a3) 0)) (Int.toNat a3) (List.getD l0 (Int.toNat a1) 0)) (Int.toNat x20) 0) (List.getD (List.set (List.set l0 (Int.toNat a1) (List.getD l0 (Int.toNat a3) 0)) (Int.toNat a3) (List.getD l0 (Int.toNat a1) 0)) (Int.toNat a1) 0) (fr.int (d := 37) rfl) (fr.int (d := 41) rfl) S hr) ?_
    rintro _ w ⟨rfl, hv, S⟩
    refine ⟨_, rfl, hv, (Sat.mask S [true]), fun a fr => ?_⟩
    refine sl_run o_ 1 rfl fr fun a fr => ?_
    refine sl_end ?_
    with_reducible refine then_n ?_
    refine cw_if fr rfl h (fun h => ?_) (fun h => ?_)
    ·refine wp_skip ?_
     with_reducible refine then_n ?_
     refine wp_block ?_
     refine wp_region_lit ?_
     refine wl_run o_ 3 rfl fr fun a fr => ?_
     refine wpList_nil ?_
     refine blk_n ?_
     exact ⟨(IntKind.wrap .i64 (x20 + (1 : Int))), fr.sub ⟨rfl, rfl, rfl, rfl, trivial⟩, S, h⟩
    ·refine wp_exit ?_
     refine then_e ?_
     refine then_e ?_
     refine blk_y ?_
     exact ⟨k5, x20, fr.sub ⟨rfl, rfl, rfl, rfl, trivial⟩, S, h⟩
   ·refine sl_run o_ 8 rfl fr fun a fr => ?_
    refine sl_no fr rfl (Sat.mask S [true]) rfl rfl fun a fr => ?_
    refine sl_run o_ 1 rfl fr fun a fr => ?_
    refine sl_end ?_
    with_reducible refine then_n ?_
    refine cw_f fr rfl ?_
    refine wp_exit ?_
    refine then_e ?_
    refine then_e ?_
    refine blk_y ?_
    exact ⟨k5, x20, fr.sub ⟨rfl, rfl, rfl, rfl, trivial⟩, S, h⟩
 ·rintro a w ⟨kj1, x1, fr, S, h⟩
  rw [pt_.j1] at h
  refine cw_cut (fun a w => ∃ kj2 : Nat, ∃ x2 : Int, Fr 168 a [(0, (.slice A0 n0 c0)), (1, (.int .i64 a1)), (10, (.int .i64 x1)), (11, (.int .i64 x2))] ∧ Sat w0 w (rowA .u32 31 A0 c0 n0 (List.set (List.set l0 (Int.toNat a1) (List.getD l0 (Int.toNat a3) 0)) (Int.toNat a3) (List.getD l0 (Int.toNat a1) 0)) :: R) ∧ (pt_.j2 kj2 x1 a1 n0 l0 a3 x2) = some r) ?_ ?_
  ·refine wp_block ?_
   refine cw_loop (fun k4 a w => ∃ x17 : Int, Fr 168 a [(0, (.slice A0 n0 c0)), (1, (.int .i64 a1)), (10, (.int .i64 x1)), (11, (.int .i64 x17))] ∧ Sat w0 w (rowA .u32 31 A0 c0 n0 (List.set (List.set l0 (Int.toNat a1) (List.getD l0 (Int.toNat a3) 0)) (Int.toNat a3) (List.getD l0 (Int.toNat a1) 0)) :: R) ∧ (pt_.l4 k4 x1 n0 a1 l0 a3 x17) = some r) kj1 ⟨(IntKind.wrap .i64 (a2 - (1 : Int))), fr.sub ⟨rfl, rfl, rfl, rfl, trivial⟩, S, h⟩ ?_ ?_
   ·rintro a w ⟨x17, -, -, h⟩
    simp only [pt_.l4] at h
    cases h
   ·rintro k4 a w ⟨x17, fr, S, h⟩
    rw [pt_.l4] at h
    refine q_ rfl ?_
    refine wp_region_sl [u_ 0 46, u_ 1 47, u_ 2 48, u_ 3 49, u_ 4 50, u_ 5 51, u_ 6 52, u_ 7 53, u_ 8 54, u_ 9 55, u_ 10 56, u_ 11 57, .one (12, false, some 58), u_ 13 59, u_ 14 60]
     [m_ 46 10 3,
  m_ 47 11 3,
  .one ⟨true, some 48, (.binOp .leq 3 (.tmp 46) (.tmp 47) 3), 4, none⟩,
  m_ 49 48 4,
  .one ⟨true, some 50, (.move (.tmp 0)), 72, some (49, true)⟩,
  .one ⟨true, some 51, (.move (.tmp 11)), 3, some (49, true)⟩,
  .one ⟨true, some 52, (.indexAddr 72 (.tmp 50) (.tmp 51)), 0, some (49, true)⟩,
  .one ⟨true, some 53, (.load 31 (.tmp 52)), 31, some (49, true)⟩,
  .one ⟨true, some 54, (.move (.tmp 0)), 72, some (49, true)⟩,
  .one ⟨true, some 55, (.move (.tmp 1)), 3, some (49, true)⟩,
  .one ⟨true, some 56, (.indexAddr 72 (.tmp 54) (.tmp 55)), 0, some (49, true)⟩,
  .one ⟨true, some 57, (.load 31 (.tmp 56)), 31, some (49, true)⟩,
  .one ⟨false, some 58, (.call { callee := (.value (.func 107)), args := #[(.tmp 53), (.tmp 57)], argTypes := #[31, 31] }), 4, some (49, true)⟩,
  .one ⟨true, some 59, (.unOp .not 4 (.tmp 58)), 4, some (49, true)⟩,
  .one ⟨true, some 60, (.pick (.tmp 49) (.tmp 59) (.const (.bool false))), 4, none⟩]
     (fun w => Sat w0 w (rowA .u32 31 A0 c0 n0 (List.set (List.set l0 (Int.toNat a1) (List.getD l0 (Int.toNat a3) 0)) (Int.toNat a3) (List.getD l0 (Int.toNat a1) 0)) :: R)) rfl (by kernel_rfl) (by kernel_rfl) (S.drew.mask [true]) ?_
    have S := S.drew
    refine sl_run o_ 4 rfl fr fun a fr => ?_
    refine sl_split 49 fr rfl h (fun fr h => ?_) (fun fr h => ?_)
    ·refine sl_run o_ 2 rfl fr fun a fr => ?_
     obtain ⟨hc, h⟩ := ifs h
     refine sl_ld o_ (fun _ S => Sat.rowAt S 0 rfl) fr rfl rfl rfl rfl rfl rfl rfl rfl rfl rfl rfl rfl rfl rfl rfl rfl (Sat.rowLen S 0 rfl) rfl (Sat.rowHb S 0 rfl hc) (Sat.mask S [true]) fun a fr => ?_
     refine sl_run o_ 2 rfl fr fun a fr => ?_
     obtain ⟨hc, h⟩ := ifs h
     refine sl_ld o_ (fun _ S => Sat.rowAt S 0 rfl) fr rfl rfl rfl rfl rfl rfl rfl rfl rfl rfl rfl rfl rfl rfl rfl rfl (Sat.rowLen S 0 rfl) rfl (Sat.rowHb S 0 rfl hc) (Sat.mask S [true]) fun a fr => ?_
     obtain ⟨r19, hr, h⟩ := bnd h
     refine sl_call fr rfl rfl rfl rfl rfl en107 (Less_uint32.walk (List.getD (List.set (List.set l0 (Int.toNat a1) (List.getD l0 (Int.toNat a3) 0)) (Int.toNat a3) (List.getD l0 (Int.toNat a1) 0)) (Int.toNat x17) 0) (List.getD (List.set (List.set l0 (Int.toNat a1) (List.getD l0 (Int.toNat a3) 0)) (Int.toNat a3) (List.getD l0 (Int.toNat a1) 0)) (Int.toNat a1) 0) (fr.int (d := 53) rfl) (fr.int (d := 57) rfl) S hr) ?_
     rintro _ w ⟨rfl, hv, S⟩
     refine ⟨_, rfl, hv, (Sat.mask S [true]), fun a fr => ?_⟩
     refine sl_run o_ 2 rfl fr fun a fr => ?_
     refine sl_end ?_
     with_reducible refine then_n ?_
     refine cw_if fr rfl h (fun h => ?_) (fun h => ?_)
     ·refine wp_skip ?_
      with_reducible refine then_n ?_
      refine wp_block ?_
      refine wp_region_lit ?_
      refine wl_run o_ 3 rfl fr fun a fr => ?_
      refine wpList_nil ?_
      refine blk_n ?_
      exact ⟨(IntKind.wrap .i64 (x17 - (1 : Int))), fr.sub ⟨rfl, rfl, rfl, rfl, trivial⟩, S, h⟩
     ·refine wp_exit ?_
      refine then_e ?_
      refine then_e ?_
      refine blk_y ?_
      exact ⟨k4, x17, fr.sub ⟨rfl, rfl, rfl, rfl, trivial⟩, S, h⟩
    ·refine sl_run o_ 8 rfl fr fun a fr => ?_
     refine sl_no fr rfl (Sat.mask S [true]) rfl rfl fun a fr => ?_
     refine sl_run o_ 2 rfl fr fun a fr => ?_
     refine sl_end ?_
     with_reducible refine then_n ?_
     refine cw_f fr rfl ?_
     refine wp_exit ?_
     refine then_e ?_
     refine then_e ?_
     refine blk_y ?_
     exact ⟨k4, x17, fr.sub ⟨rfl, rfl, rfl, rfl, trivial⟩, S, h⟩
  ·rintro a w ⟨kj2, x2, fr, S, h⟩
   rw [pt_.j2] at h
   refine r_ rfl ?_
   refine wl_run o_ 3 rfl fr fun a fr => ?_
   refine e_ ?_
   refine cw_if fr rfl h (fun h => ?_) (fun h => ?_)
   ·refine q_ rfl ?_
    refine wp_region_ph [2, 3] [12, 13, 14, 15] [u_ 2 68, u_ 3 69] [m_ 68 0 72,
  m_ 69 1 3] [u_ 0 66, u_ 1 67, u_ 4 70, u_ 5 71, u_ 6 72, u_ 7 73, u_ 8 74, u_ 9 75, u_ 10 76, u_ 11 77]
     [m_ 66 0 72,
  m_ 67 11 3,
  m_ 70 0 72,
  m_ 71 1 3,
  i_ 72 72 70 71,
  l_ 73 31 72,
  m_ 74 0 72,
  m_ 75 11 3,
  i_ 76 72 74 75,
  l_ 77 31 76]
     [u_ 12 78, .one (13, false, none), u_ 14 79, .one (15, false, none)]
     [i_ 78 72 66 67,
  .one ⟨false, none, (.store 31 (.tmp 78) (.tmp 73)), 0, none⟩,
  i_ 79 72 68 69,
  .one ⟨false, none, (.store 31 (.tmp 79) (.tmp 77)), 0, none⟩]
     (fun w => Sat w0 w (rowA .u32 31 A0 c0 n0 (List.set (List.set l0 (Int.toNat a1) (List.getD l0 (Int.toNat a3) 0)) (Int.toNat a3) (List.getD l0 (Int.toNat a1) 0)) :: R)) (fun w => Sat w0 w (R)) rfl (by kernel_rfl) (by kernel_rfl) (by kernel_rfl) (by kernel_rfl) (S.drew.mask [true]) (fun _ S => S.mask [false]) ?_
    have S := S.drew
    refine sl_run o_ 2 rfl fr fun a fr => ?_
    refine sl_next ?_
    refine sl_run o_ 4 rfl fr fun a fr => ?_
    obtain ⟨hc, h⟩ := ifs h
    refine sl_ld o_ (fun _ S => Sat.rowAt S 0 rfl) fr rfl rfl rfl rfl rfl rfl rfl rfl rfl rfl rfl rfl rfl rfl rfl rfl (Sat.rowLen S 0 rfl) rfl (Sat.rowHb S 0 rfl hc) (Sat.mask S [true]) fun a fr => ?_
    refine sl_run o_ 2 rfl fr fun a fr => ?_
    obtain ⟨hc, h⟩ := ifs h
    refine sl_ld o_ (fun _ S => Sat.rowAt S 0 rfl) fr rfl rfl rfl rfl rfl rfl rfl rfl rfl rfl rfl rfl rfl rfl rfl rfl (Sat.rowLen S 0 rfl) rfl (Sat.rowHb S 0 rfl hc) (Sat.mask S [true]) fun a fr => ?_
    refine sl_next ?_
    obtain ⟨hc, h⟩ := ifs h
    have hp78 := hc
    refine sl_pe o_ (Sat.rowAt S 0 rfl) fr rfl rfl rfl rfl rfl rfl rfl rfl rfl (Sat.rowLen S 0 rfl) (Sat.rowHb S 0 rfl hc) fun a fr => ?_
    refine sl_str o_ fr rfl rfl rfl rfl rfl rfl rfl S hp78 ?_
    intro w S
    refine ⟨(Sat.mask S [false]), ?_⟩
    obtain ⟨hc, h⟩ := ifs h
    have hp79 := hc
    refine sl_pe o_ (Sat.rowAt S 0 rfl) fr rfl rfl rfl rfl rfl rfl rfl rfl rfl (Sat.rowLen S 0 rfl) (Sat.rowHb S 0 rfl hc) fun a fr => ?_
    refine sl_str o_ fr rfl rfl rfl rfl rfl rfl rfl S hp79 ?_
    intro w S
    refine ⟨(Sat.mask S [false]), ?_⟩
    refine sl_end ?_
    refine r_ rfl ?_
    refine wl_run o_ 3 rfl fr fun a fr => ?_
    refine e_ ?_
    refine wp_ret ?_
    refine then_r ?_
    injection h with h
    subst h
    refine ret2 fr rfl rfl rfl ?_
    exact ⟨rfl, vok_tupib fr (d := 8) (e := 9) rfl rfl, S.mask [true]⟩
   ·refine wp_skip ?_
    refine q_ rfl ?_
    refine wp_region_ph [2, 3] [12, 13, 14, 15] [u_ 2 83, u_ 3 84] [m_ 83 0 72,
  m_ 84 11 3] [u_ 0 81, u_ 1 82, u_ 4 85, u_ 5 86, u_ 6 87, u_ 7 88, u_ 8 89, u_ 9 90, u_ 10 91, u_ 11 92]
     [m_ 81 0 72,
  m_ 82 10 3,
  m_ 85 0 72,
  m_ 86 11 3,
  i_ 87 72 85 86,
  l_ 88 31 87,
  m_ 89 0 72,
  m_ 90 10 3,
  i_ 91 72 89 90,
  l_ 92 31 91]
     [u_ 12 93, .one (13, false, none), u_ 14 94, .one (15, false, none)]
     [i_ 93 72 81 82,
  .one ⟨false, none, (.store 31 (.tmp 93) (.tmp 88)), 0, none⟩,
  i_ 94 72 83 84,
  .one ⟨false, none, (.store 31 (.tmp 94) (.tmp 92)), 0, none⟩]
     (fun w => Sat w0 w (rowA .u32 31 A0 c0 n0 (List.set (List.set l0 (Int.toNat a1) (List.getD l0 (Int.toNat a3) 0)) (Int.toNat a3) (List.getD l0 (Int.toNat a1) 0)) :: R)) (fun w => Sat w0 w (R)) rfl (by kernel_rfl) (by kernel_rfl) (by kernel_rfl) (by kernel_rfl) (S.drew.mask [true]) (fun _ S => S.mask [false]) ?_
    have S := S.drew
    refine sl_run o_ 2 rfl fr fun a fr => ?_
    refine sl_next ?_
    refine sl_run o_ 4 rfl fr fun a fr => ?_
    obtain ⟨hc, h⟩ := ifs h
    refine sl_ld o_ (fun _ S => Sat.rowAt S 0 rfl) fr rfl rfl rfl rfl rfl rfl rfl rfl rfl rfl rfl rfl rfl rfl rfl rfl (Sat.rowLen S 0 rfl) rfl (Sat.rowHb S 0 rfl hc) (Sat.mask S [true]) fun a fr => ?_
    refine sl_run o_ 2 rfl fr fun a fr => ?_
    obtain ⟨hc, h⟩ := ifs h
    refine sl_ld o_ (fun _ S => Sat.rowAt S 0 rfl) fr rfl rfl rfl rfl rfl rfl rfl rfl rfl rfl rfl rfl rfl rfl rfl rfl (Sat.rowLen S 0 rfl) rfl (Sat.rowHb S 0 rfl hc) (Sat.mask S [true]) fun a fr => ?_
    refine sl_next ?_
    obtain ⟨hc, h⟩ := ifs h
    have hp93 := hc
    refine sl_pe o_ (Sat.rowAt S 0 rfl) fr rfl rfl rfl rfl rfl rfl rfl rfl rfl (Sat.rowLen S 0 rfl) (Sat.rowHb S 0 rfl hc) fun a fr => ?_
    refine sl_str o_ fr rfl rfl rfl rfl rfl rfl rfl S hp93 ?_
    intro w S
    refine ⟨(Sat.mask S [false]), ?_⟩
    obtain ⟨hc, h⟩ := ifs h
    have hp94 := hc
    refine sl_pe o_ (Sat.rowAt S 0 rfl) fr rfl rfl rfl rfl rfl rfl rfl rfl rfl (Sat.rowLen S 0 rfl) (Sat.rowHb S 0 rfl hc) fun a fr => ?_
    refine sl_str o_ fr rfl rfl rfl rfl rfl rfl rfl S hp94 ?_
    intro w S
    refine ⟨(Sat.mask S [false]), ?_⟩
    refine sl_end ?_
    refine r_ rfl ?_
    refine wl_run o_ 3 rfl fr fun a fr => ?_
    refine er_ rfl rfl ?_
    refine wl_run o_ 3 rfl fr fun a fr => ?_
    refine eq_ rfl rfl ?_
    refine wp_block ?_
    refine cw_loop (fun k1 a w => ∃ l3 : List Int, ∃ x4 : Int, ∃ x5 : Int, Fr 168 a [(0, (.slice A0 n0 c0)), (1, (.int .i64 a1)), (10, (.int .i64 x4)), (11, (.int .i64 x5))] ∧ Sat w0 w (rowA .u32 31 A0 c0 n0 l3 :: R) ∧ (pt_.l1 k1 n0 a1 l3 x4 x5) = some r) kj2 ⟨(List.set (List.set (List.set (List.set l0 (Int.toNat a1) (List.getD l0 (Int.toNat a3) 0)) (Int.toNat a3) (List.getD l0 (Int.toNat a1) 0)) (Int.toNat x1) (List.getD (List.set (List.set l0 (Int.toNat a1) (List.getD l0 (Int.toNat a3) 0)) (Int.toNat a3) (List.getD l0 (Int.toNat a1) 0)) (Int.toNat x2) 0)) (Int.toNat x2) (List.getD (List.set (List.set l0 (Int.toNat a1) (List.getD l0 (Int.toNat a3) 0)) (Int.toNat a3) (List.getD l0 (Int.toNat a1) 0)) (Int.toNat x1) 0)), (IntKind.wrap .i64 (x1 + (1 : Int))), (IntKind.wrap .i64 (x2 - (1 : Int))), fr.sub ⟨rfl, rfl, rfl, rfl, trivial⟩, S, h⟩ ?_ ?_
    ·rintro a w ⟨l3, x4, x5, -, -, h⟩
     simp only [pt_.l1] at h
     cases h
    ·rintro k1 a w ⟨l3, x4, x5, fr, S, h⟩
     rw [pt_.l1] at h
     refine wp_block ?_
     refine cw_cut (fun a w => ∃ kj3 : Nat, ∃ x9 : Int, Fr 168 a [(0, (.slice A0 n0 c0)), (1, (.int .i64 a1)), (10, (.int .i64 x9)), (11, (.int .i64 x5))] ∧ Sat w0 w (rowA .u32 31 A0 c0 n0 l3 :: R) ∧ (pt_.j3 kj3 (pt_.l1 k1 n0 a1) n0 a1 l3 x5 x9) = some r) ?_ ?_
     ·refine wp_block ?_
      refine cw_loop (fun k3 a w => ∃ x14 : Int, Fr 168 a [(0, (.slice A0 n0 c0)), (1, (.int .i64 a1)), (10, (.int .i64 x14)), (11, (.int .i64 x5))] ∧ Sat w0 w (rowA .u32 31 A0 c0 n0 l3 :: R) ∧ (pt_.l3 k3 (pt_.l1 k1 n0 a1) x5 n0 a1 l3 x14) = some r) k1 ⟨x4, fr.sub ⟨rfl, rfl, rfl, rfl, trivial⟩, S, h⟩ ?_ ?_
      ·rintro a w ⟨x14, -, -, h⟩
       simp only [pt_.l3] at h
       cases h
      ·rintro k3 a w ⟨x14, fr, S, h⟩
       rw [pt_.l3] at h
       refine q_ rfl ?_
       refine wp_region_sl [u_ 0 99, u_ 1 100, u_ 2 101, u_ 3 102, u_ 4 103, u_ 5 104, u_ 6 105, u_ 7 106, u_ 8 107, u_ 9 108, u_ 10 109, u_ 11 110, .one (12, false, some 111), u_ 13 112]
        [m_ 99 10 3,
  m_ 100 11 3,
  .one ⟨true, some 101, (.binOp .leq 3 (.tmp 99) (.tmp 100) 3), 4, none⟩,
  m_ 102 101 4,
  .one ⟨true, some 103, (.move (.tmp 0)), 72, some (102, true)⟩,
  .one ⟨true, some 104, (.move (.tmp 10)), 3, some (102, true)⟩,
  .one ⟨true, some 105, (.indexAddr 72 (.tmp 103) (.tmp 104)), 0, some (102, true)⟩,
  .one ⟨true, some 106, (.load 31 (.tmp 105)), 31, some (102, true)⟩,
  .one ⟨true, some 107, (.move (.tmp 0)), 72, some (102, true)⟩,
  .one ⟨true, some 108, (.move (.tmp 1)), 3, some (102, true)⟩,
  .one ⟨true, some 109, (.indexAddr 72 (.tmp 107) (.tmp 108)), 0, some (102, true)⟩,
  .one ⟨true, some 110, (.load 31 (.tmp 109)), 31, some (102, true)⟩,
  .one ⟨false, some 111, (.call { callee := (.value (.func 107)), args := #[(.tmp 106), (.tmp 110)], argTypes := #[31, 31] }), 4, some (102, true)⟩,
  .one ⟨true, some 112, (.pick (.tmp 102) (.tmp 111) (.const (.bool false))), 4, none⟩]
        (fun w => Sat w0 w (rowA .u32 31 A0 c0 n0 l3 :: R)) rfl (by kernel_rfl) (by kernel_rfl) (S.drew.mask [true]) ?_
       have S := S.drew
       refine sl_run o_ 4 rfl fr fun a fr => ?_
       refine sl_split 102 fr rfl h (fun fr h => ?_) (fun fr h => ?_)
       ·refine sl_run o_ 2 rfl fr fun a fr => ?_
        obtain ⟨hc, h⟩ := ifs h
        refine sl_ld o_ (fun _ S => Sat.rowAt S 0 rfl) fr rfl rfl rfl rfl rfl rfl rfl rfl rfl rfl rfl rfl rfl rfl rfl rfl (Sat.rowLen S 0 rfl) rfl (Sat.rowHb S 0 rfl hc) (Sat.mask S [true]) fun a fr => ?_
        refine sl_run o_ 2 rfl fr fun a fr => ?_
        obtain ⟨hc, h⟩ := ifs h
        refine sl_ld o_ (fun _ S => Sat.rowAt S 0 rfl) fr rfl rfl rfl rfl rfl rfl rfl rfl rfl rfl rfl rfl rfl rfl rfl rfl (Sat.rowLen S 0 rfl) rfl (Sat.rowHb S 0 rfl hc) (Sat.mask S [true]) fun a fr => ?_
        obtain ⟨r16, hr, h⟩ := bnd h
        refine sl_call fr rfl rfl rfl rfl rfl en107 (Less_uint32.walk (List.getD l3 (Int.toNat x14) 0) (List.getD l3 (Int.toNat a1) 0) (fr.int (d := 106) rfl) (fr.int (d := 110) rfl) S hr) ?_
        rintro _ w ⟨rfl, hv, S⟩
        refine ⟨_, rfl, hv, (Sat.mask S [true]), fun a fr => ?_⟩
        refine sl_run o_ 1 rfl fr fun a fr => ?_
        refine sl_end ?_
        with_reducible refine then_n ?_
        refine cw_if fr rfl h (fun h => ?_) (fun h => ?_)
        ·refine wp_skip ?_
         with_reducible refine then_n ?_
         refine wp_block ?_
         refine wp_region_lit ?_
         refine wl_run o_ 3 rfl fr fun a fr => ?_
         refine wpList_nil ?_
         refine blk_n ?_
         exact ⟨(IntKind.wrap .i64 (x14 + (1 : Int))), fr.sub ⟨rfl, rfl, rfl, rfl, trivial⟩, S, h⟩
        ·refine wp_exit ?_
         refine then_e ?_
         refine then_e ?_
         refine blk_y ?_
         exact ⟨k3, x14, fr.sub ⟨rfl, rfl, rfl, rfl, trivial⟩, S, h⟩
       ·refine sl_run o_ 8 rfl fr fun a fr => ?_
        refine sl_no fr rfl (Sat.mask S [true]) rfl rfl fun a fr => ?_
        refine sl_run o_ 1 rfl fr fun a fr => ?_
        refine sl_end ?_
        with_reducible refine then_n ?_
        refine cw_f fr rfl ?_
        refine wp_exit ?_
        refine then_e ?_
        refine then_e ?_
        refine blk_y ?_
        exact ⟨k3, x14, fr.sub ⟨rfl, rfl, rfl, rfl, trivial⟩, S, h⟩
     ·rintro a w ⟨kj3, x9, fr, S, h⟩
      rw [pt_.j3] at h
      refine cw_cut (fun a w => ∃ x10 : Int, Fr 168 a [(0, (.slice A0 n0 c0)), (1, (.int .i64 a1)), (10, (.int .i64 x9)), (11, (.int .i64 x10))] ∧ Sat w0 w (rowA .u32 31 A0 c0 n0 l3 :: R) ∧ (pt_.j4 (pt_.l1 k1 n0 a1) x9 a1 n0 l3 x10) = some r) ?_ ?_
      ·refine wp_block ?_
       refine cw_loop (fun k2 a w => ∃ x11 : Int, Fr 168 a [(0, (.slice A0 n0 c0)), (1, (.int .i64 a1)), (10, (.int .i64 x9)), (11, (.int .i64 x11))] ∧ Sat w0 w (rowA .u32 31 A0 c0 n0 l3 :: R) ∧ (pt_.l2 k2 (pt_.l1 k1 n0 a1) x9 n0 a1 l3 x11) = some r) kj3 ⟨x5, fr.sub ⟨rfl, rfl, rfl, rfl, trivial⟩, S, h⟩ ?_ ?_
       ·rintro a w ⟨x11, -, -, h⟩
        simp only [pt_.l2] at h
        cases h
       ·rintro k2 a w ⟨x11, fr, S, h⟩
        rw [pt_.l2] at h
        refine q_ rfl ?_
        refine wp_region_sl [u_ 0 115, u_ 1 116, u_ 2 117, u_ 3 118, u_ 4 119, u_ 5 120, u_ 6 121, u_ 7 122, u_ 8 123, u_ 9 124, u_ 10 125, u_ 11 126, .one (12, false, some 127), u_ 13 128, u_ 14 129]
         [m_ 115 10 3,
  m_ 116 11 3,
  .one ⟨true, some 117, (.binOp .leq 3 (.tmp 115) (.tmp 116) 3), 4, none⟩,
  m_ 118 117 4,
  .one ⟨true, some 119, (.move (.tmp 0)), 72, some (118, true)⟩,
  .one ⟨true, some 120, (.move (.tmp 11)), 3, some (118, true)⟩,
  .one ⟨true, some 121, (.indexAddr 72 (.tmp 119) (.tmp 120)), 0, some (118, true)⟩,
  .one ⟨true, some 122, (.load 31 (.tmp 121)), 31, some (118, true)⟩,
  .one ⟨true, some 123, (.move (.tmp 0)), 72, some (118, true)⟩,
  .one ⟨true, some 124, (.move (.tmp 1)), 3, some (118, true)⟩,
  .one ⟨true, some 125, (.indexAddr 72 (.tmp 123) (.tmp 124)), 0, some (118, true)⟩,
  .one ⟨true, some 126, (.load 31 (.tmp 125)), 31, some (118, true)⟩,
  .one ⟨false, some 127, (.call { callee := (.value (.func 107)), args := #[(.tmp 122), (.tmp 126)], argTypes := #[31, 31] }), 4, some (118, true)⟩,
  .one ⟨true, some 128, (.unOp .not 4 (.tmp 127)), 4, some (118, true)⟩,
  .one ⟨true, some 129, (.pick (.tmp 118) (.tmp 128) (.const (.bool false))), 4, none⟩]
         (fun w => Sat w0 w (rowA .u32 31 A0 c0 n0 l3 :: R)) rfl (by kernel_rfl) (by kernel_rfl) (S.drew.mask [true]) ?_
        have S := S.drew
        refine sl_run o_ 4 rfl fr fun a fr => ?_
        refine sl_split 118 fr rfl h (fun fr h => ?_) (fun fr h => ?_)
        ·refine sl_run o_ 2 rfl fr fun a fr => ?_
         obtain ⟨hc, h⟩ := ifs h
         refine sl_ld o_ (fun _ S => Sat.rowAt S 0 rfl) fr rfl rfl rfl rfl rfl rfl rfl rfl rfl rfl rfl rfl rfl rfl rfl rfl (Sat.rowLen S 0 rfl) rfl (Sat.rowHb S 0 rfl hc) (Sat.mask S [true]) fun a fr => ?_
         refine sl_run o_ 2 rfl fr fun a fr => ?_
         obtain ⟨hc, h⟩ := ifs h
         refine sl_ld o_ (fun _ S => Sat.rowAt S 0 rfl) fr rfl rfl rfl rfl rfl rfl rfl rfl rfl rfl rfl rfl rfl rfl rfl rfl (Sat.rowLen S 0 rfl) rfl (Sat.rowHb S 0 rfl hc) (Sat.mask S [true]) fun a fr => ?_
         obtain ⟨r13, hr, h⟩ := bnd h
         refine sl_call fr rfl rfl rfl rfl rfl en107 (Less_uint32.walk (List.getD l3 (Int.toNat x11) 0) (List.getD l3 (Int.toNat a1) 0) (fr.int (d := 122) rfl) (fr.int (d := 126) rfl) S hr) ?_
         rintro _ w ⟨rfl, hv, S⟩
         refine ⟨_, rfl, hv, (Sat.mask S [true]), fun a fr => ?_⟩
         refine sl_run o_ 2 rfl fr fun a fr => ?_
         refine sl_end ?_
         with_reducible refine then_n ?_
         refine cw_if fr rfl h (fun h => ?_) (fun h => ?_)
         ·refine wp_skip ?_
          with_reducible refine then_n ?_
          refine wp_block ?_
          refine wp_region_lit ?_
          refine wl_run o_ 3 rfl fr fun a fr => ?_
          refine wpList_nil ?_
          refine blk_n ?_
          exact ⟨(IntKind.wrap .i64 (x11 - (1 : Int))), fr.sub ⟨rfl, rfl, rfl, rfl, trivial⟩, S, h⟩
         ·refine wp_exit ?_
          refine then_e ?_
          refine then_e ?_
          refine blk_y ?_
          exact ⟨x11, fr.sub ⟨rfl, rfl, rfl, rfl, trivial⟩, S, h⟩
        ·refine sl_run o_ 8 rfl fr fun a fr => ?_
         refine sl_no fr rfl (Sat.mask S [true]) rfl rfl fun a fr => ?_
         refine sl_run o_ 2 rfl fr fun a fr => ?_
         refine sl_end ?_
         with_reducible refine then_n ?_
         refine cw_f fr rfl ?_
         refine wp_exit ?_
         refine then_e ?_
         refine then_e ?_
         refine blk_y ?_
         exact ⟨x11, fr.sub ⟨rfl, rfl, rfl, rfl, trivial⟩, S, h⟩
      ·rintro a w ⟨x10, fr, S, h⟩
       rw [pt_.j4] at h
       refine r_ rfl ?_
       refine wl_run o_ 3 rfl fr fun a fr => ?_
       refine e_ ?_
       refine cw_if fr rfl h (fun h => ?_) (fun h => ?_)
       ·refine wp_exit ?_
        refine then_e ?_
        refine blk_e rfl ?_
        refine then_e ?_
        refine blk_y ?_
        refine q_ rfl ?_
        refine wp_region_ph [2, 3] [12, 13, 14, 15] [u_ 2 155, u_ 3 156] [m_ 155 0 72,
  m_ 156 1 3] [u_ 0 153, u_ 1 154, u_ 4 157, u_ 5 158, u_ 6 159, u_ 7 160, u_ 8 161, u_ 9 162, u_ 10 163, u_ 11 164]
         [m_ 153 0 72,
  m_ 154 11 3,
  m_ 157 0 72,
  m_ 158 1 3,
  i_ 159 72 157 158,
  l_ 160 31 159,
  m_ 161 0 72,
  m_ 162 11 3,
  i_ 163 72 161 162,
  l_ 164 31 163]
         [u_ 12 165, .one (13, false, none), u_ 14 166, .one (15, false, none)]
         [i_ 165 72 153 154,
  .one ⟨false, none, (.store 31 (.tmp 165) (.tmp 160)), 0, none⟩,
  i_ 166 72 155 156,
  .one ⟨false, none, (.store 31 (.tmp 166) (.tmp 164)), 0, none⟩]
         (fun w => Sat w0 w (rowA .u32 31 A0 c0 n0 l3 :: R)) (fun w => Sat w0 w (R)) rfl (by kernel_rfl) (by kernel_rfl) (by kernel_rfl) (by kernel_rfl) (S.drew.mask [true]) (fun _ S => S.mask [false]) ?_
        have S := S.drew
        refine sl_run o_ 2 rfl fr fun a fr => ?_
        refine sl_next ?_
        refine sl_run o_ 4 rfl fr fun a fr => ?_
        obtain ⟨hc, h⟩ := ifs h
        refine sl_ld o_ (fun _ S => Sat.rowAt S 0 rfl) fr rfl rfl rfl rfl rfl rfl rfl rfl rfl rfl rfl rfl rfl rfl rfl rfl (Sat.rowLen S 0 rfl) rfl (Sat.rowHb S 0 rfl hc) (Sat.mask S [true]) fun a fr => ?_
        refine sl_run o_ 2 rfl fr fun a fr => ?_
        obtain ⟨hc, h⟩ := ifs h
        refine sl_ld o_ (fun _ S => Sat.rowAt S 0 rfl) fr rfl rfl rfl rfl rfl rfl rfl rfl rfl rfl rfl rfl rfl rfl rfl rfl (Sat.rowLen S 0 rfl) rfl (Sat.rowHb S 0 rfl hc) (Sat.mask S [true]) fun a fr => ?_
        refine sl_next ?_
        obtain ⟨hc, h⟩ := ifs h
        have hp165 := hc
        refine sl_pe o_ (Sat.rowAt S 0 rfl) fr rfl rfl rfl rfl rfl rfl rfl rfl rfl (Sat.rowLen S 0 rfl) (Sat.rowHb S 0 rfl hc) fun a fr => ?_
        refine sl_str o_ fr rfl rfl rfl rfl rfl rfl rfl S hp165 ?_
        intro w S
        refine ⟨(Sat.mask S [false]), ?_⟩
        obtain ⟨hc, h⟩ := ifs h
        have hp166 := hc
        refine sl_pe o_ (Sat.rowAt S 0 rfl) fr rfl rfl rfl rfl rfl rfl rfl rfl rfl (Sat.rowLen S 0 rfl) (Sat.rowHb S 0 rfl hc) fun a fr => ?_
        refine sl_str o_ fr rfl rfl rfl rfl rfl rfl rfl S hp166 ?_
        intro w S
        refine ⟨(Sat.mask S [false]), ?_⟩
        refine sl_end ?_
        refine r_ rfl ?_
        refine wl_run o_ 3 rfl fr fun a fr => ?_
        refine e_ ?_
        refine wp_ret ?_
        injection h with h
        subst h
        refine ret2 fr rfl rfl rfl ?_
        exact ⟨rfl, vok_tupib fr (d := 8) (e := 9) rfl rfl, S.mask [true]⟩
       ·refine wp_skip ?_
        refine q_ rfl ?_
        refine wp_region_ph [2, 3] [12, 13, 14, 15] [u_ 2 137, u_ 3 138] [m_ 137 0 72,
  m_ 138 11 3] [u_ 0 135, u_ 1 136, u_ 4 139, u_ 5 140, u_ 6 141, u_ 7 142, u_ 8 143, u_ 9 144, u_ 10 145, u_ 11 146]
         [m_ 135 0 72,
  m_ 136 10 3,
  m_ 139 0 72,
  m_ 140 11 3,
  i_ 141 72 139 140,
  l_ 142 31 141,
  m_ 143 0 72,
  m_ 144 10 3,
  i_ 145 72 143 144,
  l_ 146 31 145]
         [u_ 12 147, .one (13, false, none), u_ 14 148, .one (15, false, none)]
         [i_ 147 72 135 136,
  .one ⟨false, none, (.store 31 (.tmp 147) (.tmp 142)), 0, none⟩,
  i_ 148 72 137 138,
  .one ⟨false, none, (.store 31 (.tmp 148) (.tmp 146)), 0, none⟩]
         (fun w => Sat w0 w (rowA .u32 31 A0 c0 n0 l3 :: R)) (fun w => Sat w0 w (R)) rfl (by kernel_rfl) (by kernel_rfl) (by kernel_rfl) (by kernel_rfl) (S.drew.mask [true]) (fun _ S => S.mask [false]) ?_
        have S := S.drew
        refine sl_run o_ 2 rfl fr fun a fr => ?_
        refine sl_next ?_
        refine sl_run o_ 4 rfl fr fun a fr => ?_
        obtain ⟨hc, h⟩ := ifs h
        refine sl_ld o_ (fun _ S => Sat.rowAt S 0 rfl) fr rfl rfl rfl rfl rfl rfl rfl rfl rfl rfl rfl rfl rfl rfl rfl rfl (Sat.rowLen S 0 rfl) rfl (Sat.rowHb S 0 rfl hc) (Sat.mask S [true]) fun a fr => ?_
        refine sl_run o_ 2 rfl fr fun a fr => ?_
        obtain ⟨hc, h⟩ := ifs h
        refine sl_ld o_ (fun _ S => Sat.rowAt S 0 rfl) fr rfl rfl rfl rfl rfl rfl rfl rfl rfl rfl rfl rfl rfl rfl rfl rfl (Sat.rowLen S 0 rfl) rfl (Sat.rowHb S 0 rfl hc) (Sat.mask S [true]) fun a fr => ?_
        refine sl_next ?_
        obtain ⟨hc, h⟩ := ifs h
        have hp147 := hc
        refine sl_pe o_ (Sat.rowAt S 0 rfl) fr rfl rfl rfl rfl rfl rfl rfl rfl rfl (Sat.rowLen S 0 rfl) (Sat.rowHb S 0 rfl hc) fun a fr => ?_
        refine sl_str o_ fr rfl rfl rfl rfl rfl rfl rfl S hp147 ?_
        intro w S
        refine ⟨(Sat.mask S [false]), ?_⟩
        obtain ⟨hc, h⟩ := ifs h
        have hp148 := hc
        refine sl_pe o_ (Sat.rowAt S 0 rfl) fr rfl rfl rfl rfl rfl rfl rfl rfl rfl (Sat.rowLen S 0 rfl) (Sat.rowHb S 0 rfl hc) fun a fr => ?_
        refine sl_str o_ fr rfl rfl rfl rfl rfl rfl rfl S hp148 ?_
        intro w S
        refine ⟨(Sat.mask S [false]), ?_⟩
        refine sl_end ?_
        refine r_ rfl ?_
        refine wl_run o_ 3 rfl fr fun a fr => ?_
        refine er_ rfl rfl ?_
        refine wl_run o_ 3 rfl fr fun a fr => ?_
        refine wpList_nil ?_
        refine blk_n ?_
        exact ⟨(List.set (List.set l3 (Int.toNat x9) (List.getD l3 (Int.toNat x10) 0)) (Int.toNat x10) (List.getD l3 (Int.toNat x9) 0)), (IntKind.wrap .i64 (x9 + (1 : Int))), (IntKind.wrap .i64 (x10 - (1 : Int))), fr.sub ⟨rfl, rfl, rfl, rfl, trivial⟩, S, h⟩
theorem nextPowerOfTwo.walk (a0 : Int) {w0 w : World} {R : List Asn} (v0 : (Lit.int .i64 a0).wf = true) (S : Sat w0 w R) {r : Int} (h : nextPowerOfTwo.f a0 = some r) :
  Calls Tryz.prog 120 #[(.int .i64 a0)] w fun e w' => e = .returned (.int .u64 r) ∧ vok (.int .u64 r) = true ∧ Sat w0 w' R := by
 have key : ∀ w0 : World, w0 = w → Sat w0 w [] → Calls Tryz.prog 120 #[(.int .i64 a0)] w fun e w' => e = .returned (.int .u64 r) ∧ vok (.int .u64 r) = true ∧ Sat w0 w' [] := by
  clear S
  intro w0 hw S
  clear hw
  unfold nextPowerOfTwo.f at h
  refine calls_start (N := 7) [(.int .i64 a0)] Tryz.func120 rfl rfl rfl (vok_c v0 rfl) fun a fr => ?_
  refine r_ rfl ?_
  refine wl_run o_ 1 rfl fr fun a fr => ?_
  refine er_ rfl rfl ?_
  refine wl_run o_ 2 rfl fr fun a fr => ?_
  obtain ⟨r1, hr, h⟩ := bnd h
  refine wl_call fr rfl rfl rfl rfl en87 (Len.walk (IntKind.wrap .u64 a0) (fr.int (d := 4) rfl) S hr) ?_
  rintro _ w ⟨rfl, hv, S⟩
  refine ⟨_, rfl, hv, fun a fr => ?_⟩
  obtain ⟨hc, h⟩ := ifs h
  refine wl_pv o_ fr rfl rfl rfl (po_shl rfl rfl rfl hc) fun a fr => ?_
  refine wl_run o_ 1 rfl fr fun a fr => ?_
  obtain ⟨y2, hx, h⟩ := lt_h h
  have fr := fr.spell (d := 2) rfl (congrArg (Value.int .u64) hx)
  refine e_ ?_
  refine wp_ret ?_
  injection h with h
  subst h
  refine ret1 fr rfl rfl ?_
  exact ⟨rfl, fr.vok (d := 2) rfl, S.mask []⟩
 exact (key w rfl (Sat.start w)).mono fun e w' ⟨h1, h2, h3⟩ => ⟨h1, h2, S.new h3.below⟩
theorem Next.walk (g900 : Nat) (x900 : Int) {w0 w : World} {R : List Asn}  (S : Sat w0 w (stA 204 g900 [(.int .u64 x900)] :: R)) {r : Int × Int} (h : Next.f x900 = some r) :
  Calls Tryz.prog 121 #[(.pointer (some ⟨g900, 0, none⟩))] w fun e w' => e = .returned (.int .u64 r.1) ∧ vok (.int .u64 r.1) = true ∧ Sat w0 w' (stA 204 g900 [(.int .u64 r.2)] :: R) := by
 unfold Next.f at h
 refine calls_start (N := 33) [(.pointer (some ⟨g900, 0, none⟩))] Tryz.func121 rfl rfl rfl (vok_c rfl rfl) fun a fr => ?_
 refine r_ rfl ?_
 refine wl_run o_ 1 rfl fr fun a fr => ?_
 refine eq_ rfl rfl ?_
 refine wp_region_ph [] [8, 9] [] [] [u_ 0 3, u_ 1 4, u_ 2 5, u_ 3 6, u_ 4 7, u_ 5 8, u_ 6 9, u_ 7 10]
  [m_ 3 0 210,
  c_ 4 3,
  l_ 5 204 4,
  m_ 6 0 210,
  c_ 7 6,
  l_ 8 204 7,
  .one ⟨true, some 9, (.binOp .shl 204 (.tmp 8) (.const (.int .u64 13)) 152), 204, none⟩,
  .one ⟨true, some 10, (.binOp .xor 204 (.tmp 5) (.tmp 9) 204), 204, none⟩]
  [u_ 8 11, .one (9, false, none)]
  [c_ 11 3,
  .one ⟨false, none, (.store 204 (.tmp 11) (.tmp 10)), 0, none⟩]
  (fun w => Sat w0 w (stA 204 g900 [(.int .u64 x900)] :: R)) (fun w => Sat w0 w (R)) rfl (by kernel_rfl) (by kernel_rfl) (by kernel_rfl) (by kernel_rfl) (S.drew.mask [true]) (fun _ S => S.mask [false]) ?_
 have S := S.drew
 refine sl_next ?_
 refine sl_run o_ 2 rfl fr fun a fr => ?_
 refine sl_ldf o_ (fun _ S => Sat.varAt S 0 rfl) fr rfl rfl rfl rfl rfl rfl rfl rfl (Sat.mask S [true]) fun a fr => ?_
 refine sl_run o_ 2 rfl fr fun a fr => ?_
 refine sl_ldf o_ (fun _ S => Sat.varAt S 0 rfl) fr rfl rfl rfl rfl rfl rfl rfl rfl (Sat.mask S [true]) fun a fr => ?_
 refine sl_run o_ 2 rfl fr fun a fr => ?_
 refine sl_next ?_
 refine sl_run o_ 1 rfl fr fun a fr => ?_
 refine sl_stv o_ fr rfl rfl rfl rfl rfl rfl rfl rfl rfl S ?_
 intro w S
 obtain ⟨x1, hx, h⟩ := lt_h h
 have S : Sat w0 w (stA 204 g900 [(.int .u64 (bitv .xor .u64 x900 (IntKind.wrap .u64 (x900 * 2 ^ 13))))] :: R) := S
 rw [hx] at S
 refine ⟨(Sat.mask S [false]), ?_⟩
 refine sl_end ?_
 refine q_ rfl ?_
 refine wp_region_ph [] [8, 9] [] [] [u_ 0 12, u_ 1 13, u_ 2 14, u_ 3 15, u_ 4 16, u_ 5 17, u_ 6 18, u_ 7 19]
  [m_ 12 0 210,
  c_ 13 12,
  l_ 14 204 13,
  m_ 15 0 210,
  c_ 16 15,
  l_ 17 204 16,
  .one ⟨true, some 18, (.binOp .shr 204 (.tmp 17) (.const (.int .u64 7)) 152), 204, none⟩,
  .one ⟨true, some 19, (.binOp .xor 204 (.tmp 14) (.tmp 18) 204), 204, none⟩]
  [u_ 8 20, .one (9, false, none)]
  [c_ 20 12,
  .one ⟨false, none, (.store 204 (.tmp 20) (.tmp 19)), 0, none⟩]
  (fun w => Sat w0 w (stA 204 g900 [(.int .u64 x1)] :: R)) (fun w => Sat w0 w (R)) rfl (by kernel_rfl) (by kernel_rfl) (by kernel_rfl) (by kernel_rfl) (S.drew.mask [true]) (fun _ S => S.mask [false]) ?_
 have S := S.drew
 refine sl_next ?_
 refine sl_run o_ 2 rfl fr fun a fr => ?_
 refine sl_ldf o_ (fun _ S => Sat.varAt S 0 rfl) fr rfl rfl rfl rfl rfl rfl rfl rfl (Sat.mask S [true]) fun a fr => ?_
 refine sl_run o_ 2 rfl fr fun a fr => ?_
 refine sl_ldf o_ (fun _ S => Sat.varAt S 0 rfl) fr rfl rfl rfl rfl rfl rfl rfl rfl (Sat.mask S [true]) fun a fr => ?_
 refine sl_run o_ 2 rfl fr fun a fr => ?_
 refine sl_next ?_
 refine sl_run o_ 1 rfl fr fun a fr => ?_
 refine sl_stv o_ fr rfl rfl rfl rfl rfl rfl rfl rfl rfl S ?_
 intro w S
 obtain ⟨x2, hx, h⟩ := lt_h h
 have S : Sat w0 w (stA 204 g900 [(.int .u64 (bitv .xor .u64 x1 (Int.fdiv x1 (2 ^ 7))))] :: R) := S
 rw [hx] at S
 refine ⟨(Sat.mask S [false]), ?_⟩
 refine sl_end ?_
 refine q_ rfl ?_
 refine wp_region_ph [] [8, 9] [] [] [u_ 0 21, u_ 1 22, u_ 2 23, u_ 3 24, u_ 4 25, u_ 5 26, u_ 6 27, u_ 7 28]
  [m_ 21 0 210,
  c_ 22 21,
  l_ 23 204 22,
  m_ 24 0 210,
  c_ 25 24,
  l_ 26 204 25,
  .one ⟨true, some 27, (.binOp .shl 204 (.tmp 26) (.const (.int .u64 17)) 152), 204, none⟩,
  .one ⟨true, some 28, (.binOp .xor 204 (.tmp 23) (.tmp 27) 204), 204, none⟩]
  [u_ 8 29, .one (9, false, none)]
  [c_ 29 21,
  .one ⟨false, none, (.store 204 (.tmp 29) (.tmp 28)), 0, none⟩]
  (fun w => Sat w0 w (stA 204 g900 [(.int .u64 x2)] :: R)) (fun w => Sat w0 w (R)) rfl (by kernel_rfl) (by kernel_rfl) (by kernel_rfl) (by kernel_rfl) (S.drew.mask [true]) (fun _ S => S.mask [false]) ?_
 have S := S.drew
 refine sl_next ?_
 refine sl_run o_ 2 rfl fr fun a fr => ?_
 refine sl_ldf o_ (fun _ S => Sat.varAt S 0 rfl) fr rfl rfl rfl rfl rfl rfl rfl rfl (Sat.mask S [true]) fun a fr => ?_
 refine sl_run o_ 2 rfl fr fun a fr => ?_
 refine sl_ldf o_ (fun _ S => Sat.varAt S 0 rfl) fr rfl rfl rfl rfl rfl rfl rfl rfl (Sat.mask S [true]) fun a fr => ?_
 refine sl_run o_ 2 rfl fr fun a fr => ?_
 refine sl_next ?_
 refine sl_run o_ 1 rfl fr fun a fr => ?_
 refine sl_stv o_ fr rfl rfl rfl rfl rfl rfl rfl rfl rfl S ?_
 intro w S
 obtain ⟨x3, hx, h⟩ := lt_h h
 have S : Sat w0 w (stA 204 g900 [(.int .u64 (bitv .xor .u64 x2 (IntKind.wrap .u64 (x2 * 2 ^ 17))))] :: R) := S
 rw [hx] at S
 refine ⟨(Sat.mask S [false]), ?_⟩
 refine sl_end ?_
 refine r_ rfl ?_
 refine wl_run o_ 2 rfl fr fun a fr => ?_
 refine wl_ldf o_ (Sat.varAt S 0 rfl) fr rfl rfl rfl rfl rfl rfl rfl fun a fr => ?_
 refine wl_run o_ 1 rfl fr fun a fr => ?_
 refine e_ ?_
 refine wp_ret ?_
 injection h with h
 subst h
 refine ret1 fr rfl rfl ?_
 exact ⟨rfl, fr.vok (d := 2) rfl, S.mask [true]⟩
theorem bp_.walk (k : Nat) (A0 : Option Addr) (c0 n0 : Nat) (l0 : List Int) (a1 : Int) (a2 : Int) {w0 w : World} {R : List Asn} (m0 : n0 ≤ c0 ∧ c0 ≤ maxLen) (v1 : (Lit.int .i64 a1).wf = true) (v2 : (Lit.int .i64 a2).wf = true) (S : Sat w0 w (rowA .u32 31 A0 c0 n0 l0 :: R)) {r : List Int} (h : bp_.f k n0 l0 a1 a2 = some r) :
  Calls Tryz.prog 103 #[(.slice A0 n0 c0), (.int .i64 a1), (.int .i64 a2)] w fun e w' => e = .returned (.tuple #[]) ∧ Sat w0 w' (rowA .u32 31 A0 c0 n0 r :: R) := by
 unfold bp_.f at h
 refine calls_start (N := 65) [(.slice A0 n0 c0), (.int .i64 a1), (.int .i64 a2)] Tryz.func103 rfl rfl rfl (vok_c (vok_sl m0) (vok_c v1 (vok_c v2 rfl))) fun a fr => ?_
 refine r_ rfl ?_
 refine wl_run o_ 4 rfl fr fun a fr => ?_
 refine er_ rfl rfl ?_
 refine wl_run o_ 2 rfl fr fun a fr => ?_
 refine e_ ?_
 refine cw_if fr rfl h (fun h => ?_) (fun h => ?_)
 ·refine r_ rfl ?_
  refine wl_run o_ 2 rfl fr fun a fr => ?_
  refine wl_allocv fr rfl rfl rfl rfl zero204 rfl rfl S ?_
  intro w g1 S a fr
  refine wl_stv o_ fr rfl rfl rfl rfl rfl rfl rfl rfl S ?_
  intro w S
  obtain ⟨x2, hx, h⟩ := lt_h h
  have S : Sat w0 w (stA 204 g1 [(.int .u64 (IntKind.wrap .u64 (IntKind.wrap .i64 (a2 - a1))))] :: rowA .u32 31 A0 c0 n0 l0 :: R) := S
  rw [hx] at S
  refine er_ rfl rfl ?_
  refine wl_run o_ 1 rfl fr fun a fr => ?_
  obtain ⟨r3, hr, h⟩ := bnd h
  refine wl_call fr rfl rfl rfl rfl en120 (nextPowerOfTwo.walk (IntKind.wrap .i64 (a2 - a1)) (fr.int (d := 18) rfl) S hr) ?_
  rintro _ w ⟨rfl, hv, S⟩
  refine ⟨_, rfl, hv, fun a fr => ?_⟩
  refine wl_run o_ 1 rfl fr fun a fr => ?_
  refine er_ rfl rfl ?_
  refine wl_run o_ 7 rfl fr fun a fr => ?_
  obtain ⟨y4, hx, h⟩ := lt_h h
  have fr := fr.spell (d := 9) rfl (congrArg (Value.int .i64) hx)
  refine e_ ?_
  refine wp_block ?_
  refine cw_loop (fun k1 a w => ∃ x5 : Int, ∃ l6 : List Int, ∃ x7 : Int, Fr 65 a [(0, (.slice A0 n0 c0)), (1, (.int .i64 a1)), (6, (.int .i64 (IntKind.wrap .i64 (a2 - a1)))), (7, (.pointer (some ⟨g1, 0, none⟩))), (8, (.int .u64 r3)), (9, (.int .i64 x7))] ∧ Sat w0 w (stA 204 g1 [(.int .u64 x5)] :: rowA .u32 31 A0 c0 n0 l6 :: R) ∧ (bp_.l1 k1 a1 a2 r3 n0 x5 l6 x7) = some r) k ⟨x2, l0, y4, fr.sub ⟨rfl, rfl, rfl, rfl, rfl, rfl, trivial⟩, S, h⟩ ?_ ?_
  ·rintro a w ⟨x5, l6, x7, -, -, h⟩
   simp only [bp_.l1] at h
   cases h
  ·rintro k1 a w ⟨x5, l6, x7, fr, S, h⟩
   rw [bp_.l1] at h
   refine r_ rfl ?_
   refine wl_run o_ 8 rfl fr fun a fr => ?_
   refine e_ ?_
   refine cw_if fr rfl h (fun h => ?_) (fun h => ?_)
   ·refine wp_skip ?_
    refine q_ rfl ?_
    refine wp_block ?_
    refine r_ rfl ?_
    obtain ⟨r11, hr, h⟩ := bnd h
    refine wl_call fr rfl rfl rfl rfl en121 (Next.walk g1 x5 S hr) ?_
    rintro _ w ⟨rfl, hv, S⟩
    refine ⟨_, rfl, hv, fun a fr => ?_⟩
    refine wl_run o_ 5 rfl fr fun a fr => ?_
    obtain ⟨y12, hx, h⟩ := lt_h h
    have fr := fr.spell (d := 10) rfl (congrArg (Value.int .i64) hx)
    refine e_ ?_
    refine cw_cut (fun a w => ∃ x13 : Int, Fr 65 a [(0, (.slice A0 n0 c0)), (1, (.int .i64 a1)), (6, (.int .i64 (IntKind.wrap .i64 (a2 - a1)))), (7, (.pointer (some ⟨g1, 0, none⟩))), (8, (.int .u64 r3)), (9, (.int .i64 x7)), (10, (.int .i64 x13))] ∧ Sat w0 w (stA 204 g1 [(.int .u64 r11.2)] :: rowA .u32 31 A0 c0 n0 l6 :: R) ∧ (bp_.j1 (bp_.l1 k1 a1 a2 r3 n0) a1 n0 x7 r11 l6 x13) = some r) ?_ ?_
    ·refine r_ rfl ?_
     refine wl_run o_ 3 rfl fr fun a fr => ?_
     refine e_ ?_
     refine cw_if fr rfl h (fun h => ?_) (fun h => ?_)
     ·refine wp_region_lit ?_
      refine wl_run o_ 4 rfl fr fun a fr => ?_
      obtain ⟨y14, hx, h⟩ := lt_h h
      have fr := fr.spell (d := 10) rfl (congrArg (Value.int .i64) hx)
      refine wpList_nil ?_
      exact ⟨y14, fr.sub ⟨rfl, rfl, rfl, rfl, rfl, rfl, rfl, trivial⟩, S, h⟩
     ·refine wp_skip ?_
      exact ⟨y12, fr.sub ⟨rfl, rfl, rfl, rfl, rfl, rfl, rfl, trivial⟩, S, h⟩
    ·rintro a w ⟨x13, fr, S, h⟩
     rw [bp_.j1] at h
     refine wp_region_ph [2, 3, 4, 5] [16, 17, 18, 19] [u_ 2 49, u_ 3 50, u_ 4 51, u_ 5 52] [m_ 49 0 72,
  m_ 50 1 3,
  m_ 51 10 3,
  .one ⟨true, some 52, (.binOp .add 3 (.tmp 50) (.tmp 51) 3), 3, none⟩] [u_ 0 47, u_ 1 48, u_ 6 53, u_ 7 54, u_ 8 55, u_ 9 56, u_ 10 57, u_ 11 58, u_ 12 59, u_ 13 60, u_ 14 61, u_ 15 62]
      [m_ 47 0 72,
  m_ 48 9 3,
  m_ 53 0 72,
  m_ 54 1 3,
  m_ 55 10 3,
  .one ⟨true, some 56, (.binOp .add 3 (.tmp 54) (.tmp 55) 3), 3, none⟩,
  i_ 57 72 53 56,
  l_ 58 31 57,
  m_ 59 0 72,
  m_ 60 9 3,
  i_ 61 72 59 60,
  l_ 62 31 61]
      [u_ 16 63, .one (17, false, none), u_ 18 64, .one (19, false, none)]
      [i_ 63 72 47 48,
  .one ⟨false, none, (.store 31 (.tmp 63) (.tmp 58)), 0, none⟩,
  i_ 64 72 49 52,
  .one ⟨false, none, (.store 31 (.tmp 64) (.tmp 62)), 0, none⟩]
      (fun w => Sat w0 w (stA 204 g1 [(.int .u64 r11.2)] :: rowA .u32 31 A0 c0 n0 l6 :: R)) (fun w => Sat w0 w (stA 204 g1 [(.int .u64 r11.2)] :: R)) rfl (by kernel_rfl) (by kernel_rfl) (by kernel_rfl) (by kernel_rfl) (S.drew.mask [true, true]) (fun _ S => S.mask [true, false]) ?_
     have S := S.drew
     refine sl_run o_ 4 rfl fr fun a fr => ?_
     refine sl_next ?_
     refine sl_run o_ 6 rfl fr fun a fr => ?_
     obtain ⟨hc, h⟩ := ifs h
     refine sl_ld o_ (fun _ S => Sat.rowAt S 1 rfl) fr rfl rfl rfl rfl rfl rfl rfl rfl rfl rfl rfl rfl rfl rfl rfl rfl (Sat.rowLen S 1 rfl) rfl (Sat.rowHb S 1 rfl hc) (Sat.mask S [true, true]) fun a fr => ?_
     refine sl_run o_ 2 rfl fr fun a fr => ?_
     obtain ⟨hc, h⟩ := ifs h
     refine sl_ld o_ (fun _ S => Sat.rowAt S 1 rfl) fr rfl rfl rfl rfl rfl rfl rfl rfl rfl rfl rfl rfl rfl rfl rfl rfl (Sat.rowLen S 1 rfl) rfl (Sat.rowHb S 1 rfl hc) (Sat.mask S [true, true]) fun a fr => ?_
     refine sl_next ?_
     obtain ⟨hc, h⟩ := ifs h
     have hp63 := hc
     refine sl_pe o_ (Sat.rowAt S 1 rfl) fr rfl rfl rfl rfl rfl rfl rfl rfl rfl (Sat.rowLen S 1 rfl) (Sat.rowHb S 1 rfl hc) fun a fr => ?_
     have S : Sat w0 _ (rowA .u32 31 A0 c0 n0 l6 :: stA 204 g1 [(.int .u64 r11.2)] :: R) := S.frontAt 1 rfl
     refine sl_str o_ fr rfl rfl rfl rfl rfl rfl rfl S hp63 ?_
     intro w S
     refine ⟨(Sat.mask S [false, true]), ?_⟩
     obtain ⟨hc, h⟩ := ifs h
     have hp64 := hc
     refine sl_pe o_ (Sat.rowAt S 0 rfl) fr rfl rfl rfl rfl rfl rfl rfl rfl rfl (Sat.rowLen S 0 rfl) (Sat.rowHb S 0 rfl hc) fun a fr => ?_
     refine sl_str o_ fr rfl rfl rfl rfl rfl rfl rfl S hp64 ?_
     intro w S
     refine ⟨(Sat.mask S [false, true]), ?_⟩
     refine sl_end ?_
     refine blk_n ?_
     refine r_ rfl ?_
     refine wl_run o_ 3 rfl fr fun a fr => ?_
     refine wpList_nil ?_
     have S : Sat w0 _ (stA 204 g1 [(.int .u64 r11.2)] :: rowA .u32 31 A0 c0 n0 (List.set (List.set l6 (Int.toNat x7) (List.getD l6 (Int.toNat (IntKind.wrap .i64 (a1 + x13))) 0)) (Int.toNat (IntKind.wrap .i64 (a1 + x13))) (List.getD l6 (Int.toNat x7) 0)) :: R) := S.frontAt 1 rfl
     exact ⟨r11.2, (List.set (List.set l6 (Int.toNat x7) (List.getD l6 (Int.toNat (IntKind.wrap .i64 (a1 + x13))) 0)) (Int.toNat (IntKind.wrap .i64 (a1 + x13))) (List.getD l6 (Int.toNat x7) 0)), (IntKind.wrap .i64 (x7 + (1 : Int))), fr.sub ⟨rfl, rfl, rfl, rfl, rfl, rfl, trivial⟩, S, h⟩
   ·refine wp_exit ?_
    refine then_e ?_
    refine then_e ?_
    refine blk_y ?_
    have S : Sat w0 _ (rowA .u32 31 A0 c0 n0 l6 :: stA 204 g1 [(.int .u64 x5)] :: R) := S.frontAt 1 rfl
    refine end_ret ?_
    injection h with h
    subst h
    refine ret0 fr rfl ?_
    exact ⟨rfl, S.mask [true, false]⟩
 ·refine wp_skip ?_
  refine end_ret ?_
  injection h with h
  subst h
  refine ret0 fr rfl ?_
  exact ⟨rfl, S.mask [true]⟩
theorem pq_.walk (k : Nat) : ∀ (A0 : Option Addr) (c0 n0 : Nat) (l0 : List Int) (a1 : Int) (a2 : Int) (a3 : Int) {w0 w : World} {R : List Asn} (m0 : n0 ≤ c0 ∧ c0 ≤ maxLen) (v1 : (Lit.int .i64 a1).wf = true) (v2 : (Lit.int .i64 a2).wf = true) (v3 : (Lit.int .i64 a3).wf = true) (S : Sat w0 w (rowA .u32 31 A0 c0 n0 l0 :: R)) {r : List Int} (h : pq_.f k n0 l0 a1 a2 a3 = some r),
  Calls Tryz.prog 86 #[(.slice A0 n0 c0), (.int .i64 a1), (.int .i64 a2), (.int .i64 a3)] w fun e w' => e = .returned (.tuple #[]) ∧ Sat w0 w' (rowA .u32 31 A0 c0 n0 r :: R) := by
 induction k with
 | zero => intro A0 c0 n0 l0 a1 a2 a3 w0 w R m0 v1 v2 v3 S r h; rw [pq_.f] at h; cases h
 | succ k ih =>
  intro A0 c0 n0 l0 a1 a2 a3 w0 w R m0 v1 v2 v3 S r h
  rw [pq_.f] at h
  refine calls_start (N := 134) [(.slice A0 n0 c0), (.int .i64 a1), (.int .i64 a2), (.int .i64 a3)] Tryz.func86 rfl rfl rfl (vok_c (vok_sl m0) (vok_c v1 (vok_c v2 (vok_c v3 rfl)))) fun a fr => ?_
  refine r_ rfl ?_
  refine wl_run o_ 1 rfl fr fun a fr => ?_
  refine er_ rfl rfl ?_
  refine wl_run o_ 1 rfl fr fun a fr => ?_
  refine e_ ?_
  refine wp_block ?_
  refine cw_loop (fun k1 a w => ∃ l6 : List Int, ∃ x7 : Int, ∃ x8 : Int, ∃ x9 : Int, ∃ b10 : Bool, ∃ b11 : Bool, Fr 134 a [(0, (.slice A0 n0 c0)), (1, (.int .i64 x7)), (2, (.int .i64 x8)), (3, (.int .i64 x9)), (8, (.bool b10)), (9, (.bool b11))] ∧ Sat w0 w (rowA .u32 31 A0 c0 n0 l6 :: R) ∧ (pq_.l1 k1 (pq_.f k) n0 l6 x7 x8 x9 b10 b11) = some r) k ⟨l0, a1, a2, a3, true, true, fr.sub ⟨rfl, rfl, rfl, rfl, rfl, rfl, trivial⟩, S, h⟩ ?_ ?_
  ·rintro a w ⟨l6, x7, x8, x9, b10, b11, -, -, h⟩
   simp only [pq_.l1] at h
   cases h
  ·rintro k1 a w ⟨l6, x7, x8, x9, b10, b11, fr, S, h⟩
   rw [pq_.l1] at h
   refine wp_block ?_
   refine r_ rfl ?_
   refine wl_run o_ 4 rfl fr fun a fr => ?_
   refine er_ rfl rfl ?_
   refine wl_run o_ 2 rfl fr fun a fr => ?_
   refine e_ ?_
   refine cw_if fr rfl h (fun h => ?_) (fun h => ?_)
   ·refine r_ rfl ?_
    refine wl_run o_ 3 rfl fr fun a fr => ?_
    obtain ⟨r18, hr, h⟩ := bnd h
    refine wl_call fr rfl rfl rfl rfl en101 (is_.walk k1 A0 c0 n0 l6 x7 x8 (fr.slice (d := 24) rfl) (fr.int (d := 25) rfl) (fr.int (d := 26) rfl) S hr) ?_
    rintro _ w ⟨rfl, S⟩
    refine ⟨_, rfl, rfl, fun a fr => ?_⟩
    refine e_ ?_
    refine wp_ret ?_
    refine then_r ?_
    refine blk_r ?_
    refine then_r ?_
    refine blk_r ?_
    injection h with h
    subst h
    refine ret0 fr rfl ?_
    exact ⟨rfl, S.mask [true]⟩
   ·refine wp_skip ?_
    refine r_ rfl ?_
    refine wl_run o_ 2 rfl fr fun a fr => ?_
    refine e_ ?_
    refine cw_if fr rfl h (fun h => ?_) (fun h => ?_)
    ·refine r_ rfl ?_
     refine wl_run o_ 3 rfl fr fun a fr => ?_
     obtain ⟨r19, hr, h⟩ := bnd h
     refine wl_call fr rfl rfl rfl rfl en102 (hs_.walk k1 A0 c0 n0 l6 x7 x8 (fr.slice (d := 30) rfl) (fr.int (d := 31) rfl) (fr.int (d := 32) rfl) S hr) ?_
     rintro _ w ⟨rfl, S⟩
     refine ⟨_, rfl, rfl, fun a fr => ?_⟩
     refine e_ ?_
     refine wp_ret ?_
     refine then_r ?_
     refine blk_r ?_
     refine then_r ?_
     refine blk_r ?_
     injection h with h
     subst h
     refine ret0 fr rfl ?_
     exact ⟨rfl, S.mask [true]⟩
    ·refine wp_skip ?_
     with_reducible refine then_n ?_
     refine cw_cut (fun a w => ∃ kj1 : Nat, ∃ l20 : List Int, ∃ x21 : Int, Fr 134 a [(0, (.slice A0 n0 c0)), (1, (.int .i64 x7)), (2, (.int .i64 x8)), (3, (.int .i64 x21)), (8, (.bool b10)), (9, (.bool b11)), (10, (.int .i64 (IntKind.wrap .i64 (x8 - x7))))] ∧ Sat w0 w (rowA .u32 31 A0 c0 n0 l20 :: R) ∧ (pq_.j1 kj1 (pq_.f k) (pq_.l1 k1 (pq_.f k) n0) x7 x8 n0 b10 b11 l20 x21) = some r) ?_ ?_
     ·refine r_ rfl ?_
      refine wl_run o_ 2 rfl fr fun a fr => ?_
      refine e_ ?_
      refine cw_if fr rfl h (fun h => ?_) (fun h => ?_)
      ·refine r_ rfl ?_
       refine wl_run o_ 3 rfl fr fun a fr => ?_
       obtain ⟨r39, hr, h⟩ := bnd h
       refine wl_call fr rfl rfl rfl rfl en103 (bp_.walk k1 A0 c0 n0 l6 x7 x8 (fr.slice (d := 36) rfl) (fr.int (d := 37) rfl) (fr.int (d := 38) rfl) S hr) ?_
       rintro _ w ⟨rfl, S⟩
       refine ⟨_, rfl, rfl, fun a fr => ?_⟩
       refine er_ rfl rfl ?_
       refine wl_run o_ 3 rfl fr fun a fr => ?_
       refine wpList_nil ?_
       exact ⟨k1, r39, (IntKind.wrap .i64 (x9 - (1 : Int))), fr.sub ⟨rfl, rfl, rfl, rfl, rfl, rfl, rfl, trivial⟩, S, h⟩
      ·refine wp_skip ?_
       exact ⟨k1, l6, x9, fr.sub ⟨rfl, rfl, rfl, rfl, rfl, rfl, rfl, trivial⟩, S, h⟩
     ·rintro a w ⟨kj1, l20, x21, fr, S, h⟩
      rw [pq_.j1] at h
      refine r_ rfl ?_
      refine wl_run o_ 3 rfl fr fun a fr => ?_
      obtain ⟨r22, hr, h⟩ := bnd h
      refine wl_callE fr rfl rfl rfl rfl en104 (by rw [Sat.rowLen S 0 rfl]) (cp_.walk A0 c0 l20 x7 x8 (Sat.rowAt S 0 rfl) (by rw [← Sat.rowLen S 0 rfl]; exact fr.slice (d := 43) rfl) (fr.int (d := 44) rfl) (fr.int (d := 45) rfl) S hr) ?_
      rintro _ w ⟨rfl, hv, S⟩
      refine ⟨_, rfl, hv, fun a fr => ?_⟩
      refine wl_run o_ 5 rfl fr fun a fr => ?_
      refine e_ ?_
      refine cw_cut (fun a w => ∃ kj2 : Nat, ∃ l23 : List Int, ∃ x24 : Int, ∃ x25 : Int, Fr 134 a [(0, (.slice A0 n0 c0)), (1, (.int .i64 x7)), (2, (.int .i64 x8)), (3, (.int .i64 x21)), (8, (.bool b10)), (9, (.bool b11)), (10, (.int .i64 (IntKind.wrap .i64 (x8 - x7)))), (11, (.int .i64 x24)), (12, (.int .i64 x25))] ∧ Sat w0 w (rowA .u32 31 A0 c0 n0 l23 :: R) ∧ (pq_.j2 kj2 (pq_.f k) (pq_.l1 k1 (pq_.f k) n0) b10 b11 n0 x7 x8 x21 l23 x24 x25) = some r) ?_ ?_
      ·refine r_ rfl ?_
       refine wl_run o_ 2 rfl fr fun a fr => ?_
       refine e_ ?_
       refine cw_if fr rfl h (fun h => ?_) (fun h => ?_)
       ·refine r_ rfl ?_
        refine wl_run o_ 3 rfl fr fun a fr => ?_
        obtain ⟨r37, hr, h⟩ := bnd h
        refine wl_call fr rfl rfl rfl rfl en105 (rr_.walk kj1 A0 c0 n0 l20 x7 x8 (fr.slice (d := 51) rfl) (fr.int (d := 52) rfl) (fr.int (d := 53) rfl) S hr) ?_
        rintro _ w ⟨rfl, S⟩
        refine ⟨_, rfl, rfl, fun a fr => ?_⟩
        refine er_ rfl rfl ?_
        refine wl_run o_ 7 rfl fr fun a fr => ?_
        obtain ⟨y38, hx, h⟩ := lt_h h
        have fr := fr.spell (d := 11) rfl (congrArg (Value.int .i64) hx)
        refine er_ rfl rfl ?_
        refine wl_run o_ 1 rfl fr fun a fr => ?_
        refine wpList_nil ?_
        exact ⟨kj1, r37, y38, (1 : Int), fr.sub ⟨rfl, rfl, rfl, rfl, rfl, rfl, rfl, rfl, rfl, trivial⟩, S, h⟩
       ·refine wp_skip ?_
        exact ⟨kj1, l20, r22.1, r22.2, fr.sub ⟨rfl, rfl, rfl, rfl, rfl, rfl, rfl, rfl, rfl, trivial⟩, S, h⟩
      ·rintro a w ⟨kj2, l23, x24, x25, fr, S, h⟩
       rw [pq_.j2] at h
       refine cw_cut (fun a w => ∃ kj3 : Nat, ∃ l26 : List Int, Fr 134 a [(0, (.slice A0 n0 c0)), (1, (.int .i64 x7)), (2, (.int .i64 x8)), (3, (.int .i64 x21)), (8, (.bool b10)), (9, (.bool b11)), (10, (.int .i64 (IntKind.wrap .i64 (x8 - x7)))), (11, (.int .i64 x24))] ∧ Sat w0 w (rowA .u32 31 A0 c0 n0 l26 :: R) ∧ (pq_.j3 kj3 (pq_.f k) (pq_.l1 k1 (pq_.f k) n0) x7 n0 x24 x8 x21 b10 b11 l26) = some r) ?_ ?_
       ·refine r_ rfl ?_
        refine wl_run o_ 2 rfl fr fun a fr => ?_
        refine wl_split 62 fr rfl h (fun fr h => ?_) (fun fr h => ?_)
        ·refine wl_run o_ 3 rfl fr fun a fr => ?_
         refine wl_split 65 fr rfl h (fun fr h => ?_) (fun fr h => ?_)
         ·refine wl_run o_ 3 rfl fr fun a fr => ?_
          refine e_ ?_
          refine cw_if fr rfl h (fun h => ?_) (fun h => ?_)
          ·refine r_ rfl ?_
           refine wl_run o_ 3 rfl fr fun a fr => ?_
           obtain ⟨r36, hr, h⟩ := bnd h
           refine wl_call fr rfl rfl rfl rfl en106 (pi_.walk kj2 A0 c0 n0 l23 x7 x8 (fr.slice (d := 69) rfl) (fr.int (d := 70) rfl) (fr.int (d := 71) rfl) S hr) ?_
           rintro _ w ⟨rfl, hv, S⟩
           refine ⟨_, rfl, hv, fun a fr => ?_⟩
           refine e_ ?_
           refine cw_if fr rfl h (fun h => ?_) (fun h => ?_)
           ·refine wp_ret ?_
            refine then_r ?_
            refine blk_r ?_
            refine then_r ?_
            refine blk_r ?_
            injection h with h
            subst h
            refine ret0 fr rfl ?_
            exact ⟨rfl, S.mask [true]⟩
           ·refine wp_skip ?_
            exact ⟨kj2, r36.2, fr.sub ⟨rfl, rfl, rfl, rfl, rfl, rfl, rfl, rfl, trivial⟩, S, h⟩
          ·refine wp_skip ?_
           exact ⟨kj2, l23, fr.sub ⟨rfl, rfl, rfl, rfl, rfl, rfl, rfl, rfl, trivial⟩, S, h⟩
         ·refine wl_run o_ 3 rfl fr fun a fr => ?_
          refine e_ ?_
          refine cw_f fr rfl ?_
          refine wp_skip ?_
          exact ⟨kj2, l23, fr.sub ⟨rfl, rfl, rfl, rfl, rfl, rfl, rfl, rfl, trivial⟩, S, h⟩
        ·refine wl_run o_ 6 rfl fr fun a fr => ?_
         refine e_ ?_
         refine cw_f fr rfl ?_
         refine wp_skip ?_
         exact ⟨kj2, l23, fr.sub ⟨rfl, rfl, rfl, rfl, rfl, rfl, rfl, rfl, trivial⟩, S, h⟩
       ·rintro a w ⟨kj3, l26, fr, S, h⟩
        rw [pq_.j3] at h
        refine cw_cut (fun a w => ∃ kj4 : Nat, Fr 134 a [(0, (.slice A0 n0 c0)), (1, (.int .i64 x7)), (2, (.int .i64 x8)), (3, (.int .i64 x21)), (10, (.int .i64 (IntKind.wrap .i64 (x8 - x7)))), (11, (.int .i64 x24))] ∧ Sat w0 w (rowA .u32 31 A0 c0 n0 l26 :: R) ∧ (pq_.j4 kj4 (pq_.f k) (pq_.l1 k1 (pq_.f k) n0) n0 l26 x7 x8 x24 x21) = some r) ?_ ?_
        ·refine q_ rfl ?_
         refine wp_region_sl [u_ 0 73, u_ 1 74, u_ 2 75, u_ 3 76, u_ 4 77, u_ 5 78, u_ 6 79, u_ 7 80, u_ 8 81, u_ 9 82, u_ 10 83, u_ 11 84, .one (12, false, some 85), u_ 13 86, u_ 14 87]
          [m_ 73 1 3,
  .one ⟨true, some 74, (.binOp .gtr 3 (.tmp 73) (.const (.int .i64 0)) 3), 4, none⟩,
  m_ 75 74 4,
  .one ⟨true, some 76, (.move (.tmp 0)), 72, some (75, true)⟩,
  .one ⟨true, some 77, (.move (.tmp 1)), 3, some (75, true)⟩,
  .one ⟨true, some 78, (.binOp .sub 3 (.tmp 77) (.const (.int .i64 1)) 3), 3, some (75, true)⟩,
  .one ⟨true, some 79, (.indexAddr 72 (.tmp 76) (.tmp 78)), 0, some (75, true)⟩,
  .one ⟨true, some 80, (.load 31 (.tmp 79)), 31, some (75, true)⟩,
  .one ⟨true, some 81, (.move (.tmp 0)), 72, some (75, true)⟩,
  .one ⟨true, some 82, (.move (.tmp 11)), 3, some (75, true)⟩,
  .one ⟨true, some 83, (.indexAddr 72 (.tmp 81) (.tmp 82)), 0, some (75, true)⟩,
  .one ⟨true, some 84, (.load 31 (.tmp 83)), 31, some (75, true)⟩,
  .one ⟨false, some 85, (.call { callee := (.value (.func 107)), args := #[(.tmp 80), (.tmp 84)], argTypes := #[31, 31] }), 4, some (75, true)⟩,
  .one ⟨true, some 86, (.unOp .not 4 (.tmp 85)), 4, some (75, true)⟩,
  .one ⟨true, some 87, (.pick (.tmp 75) (.tmp 86) (.const (.bool false))), 4, none⟩]
          (fun w => Sat w0 w (rowA .u32 31 A0 c0 n0 l26 :: R)) rfl (by kernel_rfl) (by kernel_rfl) (S.drew.mask [true]) ?_
         have S := S.drew
         refine sl_run o_ 3 rfl fr fun a fr => ?_
         refine sl_split 75 fr rfl h (fun fr h => ?_) (fun fr h => ?_)
         ·refine sl_run o_ 3 rfl fr fun a fr => ?_
          obtain ⟨hc, h⟩ := ifs h
          refine sl_ld o_ (fun _ S => Sat.rowAt S 0 rfl) fr rfl rfl rfl rfl rfl rfl rfl rfl rfl rfl rfl rfl rfl rfl rfl rfl (Sat.rowLen S 0 rfl) rfl (Sat.rowHb S 0 rfl hc) (Sat.mask S [true]) fun a fr => ?_
          refine sl_run o_ 2 rfl fr fun a fr => ?_
          obtain ⟨hc, h⟩ := ifs h
          refine sl_ld o_ (fun _ S => Sat.rowAt S 0 rfl) fr rfl rfl rfl rfl rfl rfl rfl rfl rfl rfl rfl rfl rfl rfl rfl rfl (Sat.rowLen S 0 rfl) rfl (Sat.rowHb S 0 rfl hc) (Sat.mask S [true]) fun a fr => ?_
          obtain ⟨r34, hr, h⟩ := bnd h
          refine sl_call fr rfl rfl rfl rfl rfl en107 (Less_uint32.walk (List.getD l26 (Int.toNat (IntKind.wrap .i64 (x7 - (1 : Int)))) 0) (List.getD l26 (Int.toNat x24) 0) (fr.int (d := 80) rfl) (fr.int (d := 84) rfl) S hr) ?_
          rintro _ w ⟨rfl, hv, S⟩
          refine ⟨_, rfl, hv, (Sat.mask S [true]), fun a fr => ?_⟩
          refine sl_run o_ 2 rfl fr fun a fr => ?_
          refine sl_end ?_
          with_reducible refine then_n ?_
          refine cw_if fr rfl h (fun h => ?_) (fun h => ?_)
          ·refine r_ rfl ?_
           refine wl_run o_ 4 rfl fr fun a fr => ?_
           obtain ⟨r35, hr, h⟩ := bnd h
           refine wl_call fr rfl rfl rfl rfl en108 (pe_.walk kj3 A0 c0 n0 l26 x7 x8 x24 (fr.slice (d := 88) rfl) (fr.int (d := 89) rfl) (fr.int (d := 90) rfl) (fr.int (d := 91) rfl) S hr) ?_
           rintro _ w ⟨rfl, hv, S⟩
           refine ⟨_, rfl, hv, fun a fr => ?_⟩
           refine wl_run o_ 1 rfl fr fun a fr => ?_
           refine er_ rfl rfl ?_
           refine wl_run o_ 2 rfl fr fun a fr => ?_
           refine e_ ?_
           refine wp_exit ?_
           refine then_e ?_
           refine blk_y ?_
           exact ⟨r35.2, r35.1, x8, x21, b10, b11, fr.sub ⟨rfl, rfl, rfl, rfl, rfl, rfl, trivial⟩, S, h⟩
          ·refine wp_skip ?_
           exact ⟨kj3, fr.sub ⟨rfl, rfl, rfl, rfl, rfl, rfl, trivial⟩, S, h⟩
         ·refine sl_run o_ 9 rfl fr fun a fr => ?_
          refine sl_no fr rfl (Sat.mask S [true]) rfl rfl fun a fr => ?_
          refine sl_run o_ 2 rfl fr fun a fr => ?_
          refine sl_end ?_
          with_reducible refine then_n ?_
          refine cw_f fr rfl ?_
          refine wp_skip ?_
          exact ⟨kj3, fr.sub ⟨rfl, rfl, rfl, rfl, rfl, rfl, trivial⟩, S, h⟩
        ·rintro a w ⟨kj4, fr, S, h⟩
         rw [pq_.j4] at h
         refine r_ rfl ?_
         refine wl_run o_ 4 rfl fr fun a fr => ?_
         obtain ⟨r27, hr, h⟩ := bnd h
         refine wl_call fr rfl rfl rfl rfl en109 (pt_.walk kj4 A0 c0 n0 l26 x7 x8 x24 (fr.slice (d := 95) rfl) (fr.int (d := 96) rfl) (fr.int (d := 97) rfl) (fr.int (d := 98) rfl) S hr) ?_
         rintro _ w ⟨rfl, hv, S⟩
         refine ⟨_, rfl, hv, fun a fr => ?_⟩
         refine wl_run o_ 5 rfl fr fun a fr => ?_
         refine er_ rfl rfl ?_
         refine wl_run o_ 2 rfl fr fun a fr => ?_
         refine er_ rfl rfl ?_
         refine wl_run o_ 7 rfl fr fun a fr => ?_
         obtain ⟨y28, hx, h⟩ := lt_h h
         have fr := fr.spell (d := 16) rfl (congrArg (Value.int .i64) hx)
         refine wl_run o_ 1 rfl fr fun a fr => ?_
         obtain ⟨y29, hx, h⟩ := lt_h h
         have fr := fr.spell (d := 17) rfl (congrArg (Value.int .i64) hx)
         refine er_ rfl rfl ?_
         refine wl_run o_ 3 rfl fr fun a fr => ?_
         obtain ⟨y30, hx, h⟩ := lt_h h
         have fr := fr.spell (d := 18) rfl (congrArg (Value.int .i64) hx)
         refine er_ rfl rfl ?_
         refine wl_run o_ 3 rfl fr fun a fr => ?_
         refine e_ ?_
         refine cw_if fr rfl h (fun h => ?_) (fun h => ?_)
         ·refine r_ rfl ?_
          refine wl_run o_ 4 rfl fr fun a fr => ?_
          refine er_ rfl rfl ?_
          refine wl_run o_ 4 rfl fr fun a fr => ?_
          obtain ⟨r31, hr, h⟩ := bnd h
          refine wl_call fr rfl rfl rfl rfl en86 (ih A0 c0 n0 r27.2.2 x7 r27.1 x21 (fr.slice (d := 117) rfl) (fr.int (d := 118) rfl) (fr.int (d := 119) rfl) (fr.int (d := 120) rfl) S hr) ?_
          rintro _ w ⟨rfl, S⟩
          refine ⟨_, rfl, rfl, fun a fr => ?_⟩
          refine er_ rfl rfl ?_
          refine wl_run o_ 3 rfl fr fun a fr => ?_
          obtain ⟨y32, hx, h⟩ := lt_h h
          have fr := fr.spell (d := 1) rfl (congrArg (Value.int .i64) hx)
          refine wpList_nil ?_
          refine blk_n ?_
          exact ⟨r31, y32, x8, x21, (decide (y28 ≥ y30)), r27.2.1, fr.sub ⟨rfl, rfl, rfl, rfl, rfl, rfl, trivial⟩, S, h⟩
         ·refine r_ rfl ?_
          refine wl_run o_ 4 rfl fr fun a fr => ?_
          refine er_ rfl rfl ?_
          refine wl_run o_ 5 rfl fr fun a fr => ?_
          obtain ⟨r33, hr, h⟩ := bnd h
          refine wl_call fr rfl rfl rfl rfl en86 (ih A0 c0 n0 r27.2.2 (IntKind.wrap .i64 (r27.1 + (1 : Int))) x8 x21 (fr.slice (d := 127) rfl) (fr.int (d := 129) rfl) (fr.int (d := 130) rfl) (fr.int (d := 131) rfl) S hr) ?_
          rintro _ w ⟨rfl, S⟩
          refine ⟨_, rfl, rfl, fun a fr => ?_⟩
          refine er_ rfl rfl ?_
          refine wl_run o_ 2 rfl fr fun a fr => ?_
          refine wpList_nil ?_
          refine blk_n ?_
          exact ⟨r33, x7, r27.1, x21, (decide (y29 ≥ y30)), r27.2.1, fr.sub ⟨rfl, rfl, rfl, rfl, rfl, rfl, trivial⟩, S, h⟩
theorem st_.walk (k : Nat) (A0 : Option Addr) (c0 n0 : Nat) (l0 : List Int) {w0 w : World} {R : List Asn} (m0 : n0 ≤ c0 ∧ c0 ≤ maxLen) (S : Sat w0 w (rowA .u32 31 A0 c0 n0 l0 :: R)) {r : List Int} (h : st_.f k n0 l0 = some r) :
  Calls Tryz.prog 57 #[(.slice A0 n0 c0)] w fun e w' => e = .returned (.tuple #[]) ∧ Sat w0 w' (rowA .u32 31 A0 c0 n0 r :: R) := by
 unfold st_.f at h
 refine calls_start (N := 11) [(.slice A0 n0 c0)] Tryz.func57 rfl rfl rfl (vok_c (vok_sl m0) rfl) fun a fr => ?_
 refine r_ rfl ?_
 refine wl_run o_ 3 rfl fr fun a fr => ?_
 refine er_ rfl rfl ?_
 refine wl_run o_ 4 rfl fr fun a fr => ?_
 obtain ⟨r1, hr, h⟩ := bnd h
 refine wl_call fr rfl rfl rfl rfl en87 (Len.walk (IntKind.wrap .u64 (n0 : Int)) (fr.int (d := 8) rfl) S hr) ?_
 rintro _ w ⟨rfl, hv, S⟩
 refine ⟨_, rfl, hv, fun a fr => ?_⟩
 obtain ⟨r2, hr, h⟩ := bnd h
 refine wl_call fr rfl rfl rfl rfl en86 (pq_.walk k A0 c0 n0 l0 (0 : Int) (n0 : Int) r1 (fr.slice (d := 5) rfl) rfl (fr.int (d := 6) rfl) (fr.int (d := 9) rfl) S hr) ?_
 rintro _ w ⟨rfl, S⟩
 refine ⟨_, rfl, rfl, fun a fr => ?_⟩
 refine wpList_nil ?_
 refine end_ret ?_
 injection h with h
 subst h
 refine ret0 fr rfl ?_
 exact ⟨rfl, S.mask [true]⟩
end Go.Proofs.YticnjkdaccacaaaGreat.QS
end
