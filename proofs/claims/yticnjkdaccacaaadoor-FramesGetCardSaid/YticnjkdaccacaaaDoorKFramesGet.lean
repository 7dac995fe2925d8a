/- Walks over the program's functions, printed by a program of this work (wip/tools/shal.py): each call does what the plain function says. -/
import Derived.Test.YticnjkdaccacaaaDoorProg
import Derived.Test.YticnjkdaccacaaaDoorFz
import Derived.Test.YticnjkdaccacaaaDoorPool
import Derived.Test.YticnjkdaccacaaaDoorSo
import Derived.Test.YticnjkdaccacaaaDoorDFramesGet
namespace Go.Proofs.YticnjkdaccacaaaDoor.Pl
open Go Go.RowKit Sx Base Own

def orc : Orc := ⟨[(2, .int .i64), (3, .int .i64), (5, .int .u8), (9, .string), (22, .slice 5), (41, .struct #[Go.Field.mk "n" 3 0 false "" "concordat/concordatlaw01" 0, Go.Field.mk "bytes" 28 1 false "" "concordat/concordatlaw01" 8, Go.Field.mk "ids" 29 2 false "" "concordat/concordatlaw01" 32, Go.Field.mk "ints" 30 3 false "" "concordat/concordatlaw01" 56, Go.Field.mk "texts" 31 4 false "" "concordat/concordatlaw01" 80, Go.Field.mk "rows" 32 5 false "" "concordat/concordatlaw01" 104, Go.Field.mk "ops" 33 6 false "" "concordat/concordatlaw01" 128, Go.Field.mk "spans" 34 7 false "" "concordat/concordatlaw01" 152, Go.Field.mk "changes" 35 8 false "" "concordat/concordatlaw01" 176, Go.Field.mk "results" 36 9 false "" "concordat/concordatlaw01" 200, Go.Field.mk "msgs" 37 10 false "" "concordat/concordatlaw01" 224, Go.Field.mk "parts" 38 11 false "" "concordat/concordatlaw01" 248, Go.Field.mk "deeds" 39 12 false "" "concordat/concordatlaw01" 272]), (48, .int .u32)],
  [(5, 1), (41, 13)]⟩
theorem orc_ok : orc.Ok Tryd.prog := ⟨⟨Tryd.underlying2, Tryd.underlying3, Tryd.underlying5, Tryd.underlying9, Tryd.underlying22, Tryd.underlying41, Tryd.underlying48, trivial⟩, ⟨by kernel_rfl, by kernel_rfl, trivial⟩⟩
theorem en5 : Enters Tryd.prog 5 := fun _ _ => by kernel_rfl
theorem en7 : Enters Tryd.prog 7 := fun _ _ => by kernel_rfl
theorem en8 : Enters Tryd.prog 8 := fun _ _ => by kernel_rfl
theorem en9 : Enters Tryd.prog 9 := fun _ _ => by kernel_rfl
theorem en10 : Enters Tryd.prog 10 := fun _ _ => by kernel_rfl
theorem en11 : Enters Tryd.prog 11 := fun _ _ => by kernel_rfl
theorem en12 : Enters Tryd.prog 12 := fun _ _ => by kernel_rfl
theorem en13 : Enters Tryd.prog 13 := fun _ _ => by kernel_rfl
theorem en18 : Enters Tryd.prog 18 := fun _ _ => by kernel_rfl
theorem en19 : Enters Tryd.prog 19 := fun _ _ => by kernel_rfl
theorem en59 : Enters Tryd.prog 59 := fun _ _ => by kernel_rfl
theorem info5 : (Tryd.prog.info? 5).map (·.size) = some 1 := by kernel_rfl
theorem lit22 : RowTy Tryd.prog 22 5 .u8 := ⟨Tryd.underlying22, 1, by decide, by kernel_rfl⟩
set_option maxRecDepth 100000 in
set_option maxHeartbeats 4000000 in
theorem Sectors.walk (a0 : Int) {w0 w : World} {R : List Asn} (v0 : (Lit.int .i64 a0).wf = true) (S : Sat w0 w R) {r : Int} (h : Sectors.f a0 = some r) :
    Calls Tryd.prog 59 #[(.int .i64 a0)] w fun e w' => e = .returned (.int .i64 r) ∧ vok (.int .i64 r) = true ∧ Sat w0 w' R := by
  have key : ∀ w0 : World, w0 = w → Sat w0 w [] → Calls Tryd.prog 59 #[(.int .i64 a0)] w fun e w' => e = .returned (.int .i64 r) ∧ vok (.int .i64 r) = true ∧ Sat w0 w' [] := by
    clear S
    intro w0 hw S
    clear hw
    unfold Sectors.f at h
    refine calls_start (N := 8) [(.int .i64 a0)] Tryd.func59 rfl rfl rfl (vok_c v0 rfl) fun a fr => ?_
    refine wp_seq ?_
    refine wp_region_lit ?_
    refine wl_run orc_ok 1 rfl fr fun a fr => ?_
    refine wpList_nil ?_
    refine then_n ?_
    refine wp_seq ?_
    refine wp_region_lit ?_
    refine wl_run orc_ok 6 rfl fr fun a fr => ?_
    obtain ⟨y1, hx, h⟩ := lt_h h
    have fr := fr.spell (d := 2) rfl (congrArg (Value.int .i64) hx)
    refine wpList_nil ?_
    refine then_n ?_
    refine wp_ret ?_
    injection h with h
    subst h
    refine ret1 fr rfl rfl ?_
    exact ⟨rfl, fr.vok (d := 2) rfl, S.mask []⟩
  exact (key w rfl (Sat.start w)).mono fun e w' ⟨h1, h2, h3⟩ => ⟨h1, h2, S.new h3.below⟩
set_option maxRecDepth 100000 in
set_option maxHeartbeats 4000000 in
theorem number.walk (a0 : Int) {w0 w : World} {R : List Asn} (v0 : (Lit.int .u32 a0).wf = true) (S : Sat w0 w R) {r : List Int} (h : number.f a0 = some r) :
    Calls Tryd.prog 18 #[(.int .u32 a0)] w fun e w' => ∃ A800 : Option Addr, ∃ c800 : Nat, e = .returned (.slice A800 (List.length r) c800) ∧ vok (.slice A800 (List.length r) c800) = true ∧ Sat w0 w' (ownA .u8 5 A800 c800 r :: R) := by
  have key : ∀ w0 : World, w0 = w → Sat w0 w [] → Calls Tryd.prog 18 #[(.int .u32 a0)] w fun e w' => ∃ A800 : Option Addr, ∃ c800 : Nat, e = .returned (.slice A800 (List.length r) c800) ∧ vok (.slice A800 (List.length r) c800) = true ∧ Sat w0 w' [ownA .u8 5 A800 c800 r] := by
    clear S
    intro w0 hw S
    clear hw
    unfold number.f at h
    refine calls_start (N := 15) [(.int .u32 a0)] Tryd.func18 rfl rfl rfl (vok_c v0 rfl) fun a fr => ?_
    refine wp_seq ?_
    refine wp_region_lit ?_
    refine wl_run orc_ok 1 rfl fr fun a fr => ?_
    refine wpList_nil ?_
    refine then_n ?_
    refine wp_seq ?_
    refine wp_region_lit ?_
    refine wl_run orc_ok 11 rfl fr fun a fr => ?_
    refine wl_lit (xs := [(IntKind.wrap .u8 (IntKind.wrap .u32 (Int.tdiv a0 (16777216 : Int)))), (IntKind.wrap .u8 (IntKind.wrap .u32 (Int.tdiv a0 (65536 : Int)))), (IntKind.wrap .u8 (IntKind.wrap .u32 (Int.tdiv a0 (256 : Int)))), (IntKind.wrap .u8 a0)]) orc_ok lit22 fr rfl rfl rfl rfl ⟨rfl, rfl, rfl, rfl, rfl, rfl, rfl, rfl, trivial⟩ rfl rfl S ?_
    intro w A1 c2 S
    intro a fr
    refine wl_run orc_ok 1 rfl fr fun a fr => ?_
    refine wpList_nil ?_
    refine then_n ?_
    refine wp_ret ?_
    injection h with h
    subst h
    refine ret1 fr rfl rfl ?_
    exact ⟨A1, c2, rfl, fr.vok (d := 2) rfl, S.mask [true]⟩
  exact (key w rfl (Sat.start w)).mono fun e w' ⟨A800, c800, h1, h2, h3⟩ => ⟨A800, c800, h1, h2, S.join h3 (fun A hA F => by simp only [List.mem_cons, List.not_mem_nil, or_false] at hA; subst hA; exact own_lower S.below.size F)⟩
set_option maxRecDepth 100000 in
set_option maxHeartbeats 4000000 in
theorem Put.walk (k : Nat) (A0 : Option Addr) (c0 : Nat) (l0 : List Int) {w0 w : World} {R : List Asn} (rk0 : Rk .u8 w A0 l0) (m0 : l0.length ≤ c0 ∧ c0 ≤ maxLen) (S : Sat w0 w R) {r : List Int × Int} (h : Put.f k l0 = some r) :
    Calls Tryd.prog 7 #[(.slice A0 (List.length l0) c0)] w fun e w' => ∃ A800 : Option Addr, ∃ c800 : Nat, e = .returned (.tuple #[(.slice A800 (List.length r.1) c800), (.int .i64 r.2)]) ∧ vok (.tuple #[(.slice A800 (List.length r.1) c800), (.int .i64 r.2)]) = true ∧ Sat w0 w' (ownA .u8 5 A800 c800 r.1 :: R) := by
  have key : ∀ w0 : World, w0 = w → Sat w0 w [] → Calls Tryd.prog 7 #[(.slice A0 (List.length l0) c0)] w fun e w' => ∃ A800 : Option Addr, ∃ c800 : Nat, e = .returned (.tuple #[(.slice A800 (List.length r.1) c800), (.int .i64 r.2)]) ∧ vok (.tuple #[(.slice A800 (List.length r.1) c800), (.int .i64 r.2)]) = true ∧ Sat w0 w' [ownA .u8 5 A800 c800 r.1] := by
    clear S
    intro w0 hw S
    rw [← hw] at rk0
    clear hw
    unfold Put.f at h
    refine calls_start (N := 35) [(.slice A0 (List.length l0) c0)] Tryd.func7 rfl rfl rfl (vok_c (vok_sl m0) rfl) fun a fr => ?_
    refine wp_seq ?_
    refine wp_region_lit ?_
    refine wl_run orc_ok 2 rfl fr fun a fr => ?_
    refine wpList_nil ?_
    refine then_n ?_
    refine wp_seq ?_
    refine wp_seq ?_
    refine wp_region_lit ?_
    refine wl_run orc_ok 3 rfl fr fun a fr => ?_
    refine wpList_nil ?_
    refine then_n ?_
    refine cw_if fr rfl h (fun h => ?_) (fun h => ?_)
    · refine wp_seq ?_
      refine wp_region_lit ?_
      refine wl_run orc_ok 2 rfl fr fun a fr => ?_
      refine wpList_nil ?_
      refine then_n ?_
      refine wp_ret ?_
      refine then_r ?_
      have S : Sat w0 _ [ownA .u8 5 none 0 ([] : List Int)] := S.nilRow .u8 5
      injection h with h
      subst h
      refine ret2 fr rfl rfl rfl ?_
      exact ⟨none, 0, rfl, (by show List.all _ vokC = true; simp only [List.all_cons, List.all_nil, Bool.and_true, Bool.and_eq_true]; exact ⟨fr.vok (d := 2) rfl, fr.vok (d := 3) rfl⟩), S.mask [true]⟩
    · refine wp_skip ?_
      refine then_n ?_
      refine wp_seq ?_
      refine wp_region_lit ?_
      refine wl_run orc_ok 3 rfl fr fun a fr => ?_
      obtain ⟨r1, hr, h⟩ := bnd h
      refine wl_call fr rfl rfl rfl rfl en18 (number.walk (IntKind.wrap .u32 (List.length l0 : Int)) (fr.int (d := 12) rfl) S hr) ?_
      rintro _ w ⟨A2, c3, rfl, hv, S⟩
      refine ⟨_, rfl, hv, fun a fr => ?_⟩
      refine wl_run orc_ok 1 rfl fr fun a fr => ?_
      refine wpList_nil ?_
      refine then_n ?_
      refine wp_seq ?_
      refine wp_region_lit ?_
      refine wl_run orc_ok 1 rfl fr fun a fr => ?_
      obtain ⟨hc, h⟩ := ifs h
      have S : Sat w0 _ [ownA .u8 5 none 0 ([] : List Int), ownA .u8 5 A2 c3 r1] := S.nilRow .u8 5
      have hy := (Sat.ownAt S 1 rfl)
      refine wl_app lit22 fr rfl rfl rfl rfl rfl rfl rfl rfl hy hc S ?_
      intro w A4 c5 S
      intro a fr
      refine wl_run orc_ok 1 rfl fr fun a fr => ?_
      obtain ⟨hc, h⟩ := ifs h
      have hy := (Rk.at rk0 S)
      refine wl_app lit22 fr rfl rfl rfl rfl rfl rfl rfl rfl hy hc S ?_
      intro w A6 c7 S
      intro a fr
      refine wl_run orc_ok 1 rfl fr fun a fr => ?_
      refine wpList_nil ?_
      refine then_n ?_
      refine wp_seq ?_
      refine wp_region_lit ?_
      refine wl_run orc_ok 1 rfl fr fun a fr => ?_
      obtain ⟨hc, h⟩ := ifs h
      have S : Sat w0 _ [ownA .u8 5 none 0 ([] : List Int), ownA .u8 5 A6 c7 ((([] : List Int) ++ r1) ++ l0), ownA .u8 5 A2 c3 r1] := S.nilRow .u8 5
      have hy := (Sat.ownAt S 2 rfl)
      refine wl_app lit22 fr rfl rfl rfl rfl rfl rfl rfl rfl hy hc S ?_
      intro w A8 c9 S
      intro a fr
      refine wl_run orc_ok 1 rfl fr fun a fr => ?_
      obtain ⟨hc, h⟩ := ifs h
      obtain ⟨y10, hn0, h⟩ := lt_h h
      have H := of3_call (A := A6) (c := c7) (l := ((([] : List Int) ++ r1) ++ l0)) (Sat.ownAt S 1 rfl) hc S
      rw [hn0] at H
      refine wl_call fr rfl rfl rfl rfl en19 H ?_
      clear H
      rintro _ w ⟨rfl, hv, S⟩
      refine ⟨_, rfl, hv, fun a fr => ?_⟩
      obtain ⟨r11, hr, h⟩ := bnd h
      refine wl_call fr rfl rfl rfl rfl en18 (number.walk y10 (fr.int (d := 21) rfl) S hr) ?_
      rintro _ w ⟨A12, c13, rfl, hv, S⟩
      refine ⟨_, rfl, hv, fun a fr => ?_⟩
      obtain ⟨hc, h⟩ := ifs h
      have S : Sat w0 _ [ownA .u8 5 A8 c9 (([] : List Int) ++ r1), ownA .u8 5 A12 c13 r11, ownA .u8 5 A6 c7 ((([] : List Int) ++ r1) ++ l0), ownA .u8 5 A2 c3 r1] := S.frontAt 1 rfl
      have hy := (Sat.ownAt S 1 rfl)
      refine wl_app lit22 fr rfl rfl rfl rfl rfl rfl rfl rfl hy hc S ?_
      intro w A14 c15 S
      have S : Sat w0 _ [ownA .u8 5 A14 c15 ((([] : List Int) ++ r1) ++ r11), ownA .u8 5 A6 c7 ((([] : List Int) ++ r1) ++ l0), ownA .u8 5 A2 c3 r1] := S.mask [true, false, true, true]
      intro a fr
      refine wl_run orc_ok 1 rfl fr fun a fr => ?_
      refine wpList_nil ?_
      refine then_n ?_
      refine wp_seq ?_
      refine wp_region_lit ?_
      refine wl_run orc_ok 2 rfl fr fun a fr => ?_
      obtain ⟨hc, h⟩ := ifs h
      have hy := (Rk.at rk0 S)
      refine wl_app lit22 fr rfl rfl rfl rfl rfl rfl rfl rfl hy hc S ?_
      intro w A16 c17 S
      intro a fr
      refine wl_run orc_ok 1 rfl fr fun a fr => ?_
      refine wpList_nil ?_
      refine then_n ?_
      refine wp_seq ?_
      refine wp_block ?_
      have S : Sat w0 _ [ownA .u8 5 A16 c17 (((([] : List Int) ++ r1) ++ r11) ++ l0)] := S.mask [true, false, false]
      refine cw_loop (fun k1 a w => ∃ A18 : Option Addr, ∃ c19 : Nat, ∃ l20 : List Int, Fr 35 a [(6, (.slice A18 (List.length l20) c19))] ∧ Sat w0 w [ownA .u8 5 A18 c19 l20] ∧ (Put.l1 k1 l20) = some r) k ⟨A16, c17, (((([] : List Int) ++ r1) ++ r11) ++ l0), fr.sub ⟨rfl, trivial⟩, S, h⟩ ?_ ?_
      · rintro a w ⟨A18, c19, l20, -, -, h⟩
        simp only [Put.l1] at h
        cases h
      · rintro k1 a w ⟨A18, c19, l20, fr, S, h⟩
        rw [Put.l1] at h
        refine wp_seq ?_
        refine wp_seq ?_
        refine wp_region_lit ?_
        refine wl_run orc_ok 4 rfl fr fun a fr => ?_
        refine wpList_nil ?_
        refine then_n ?_
        refine cw_if fr rfl h (fun h => ?_) (fun h => ?_)
        · refine wp_skip ?_
          refine then_n ?_
          refine wp_block ?_
          refine wp_region_lit ?_
          refine wl_run orc_ok 1 rfl fr fun a fr => ?_
          refine wl_lit (xs := [(0 : Int)]) orc_ok lit22 fr rfl rfl rfl rfl ⟨rfl, rfl, trivial⟩ rfl rfl S ?_
          intro w A24 c25 S
          intro a fr
          obtain ⟨hc, h⟩ := ifs h
          have S : Sat w0 _ [ownA .u8 5 A18 c19 l20, ownA .u8 5 A24 c25 [(0 : Int)]] := S.frontAt 1 rfl
          have hy := (Sat.ownAt S 1 rfl)
          refine wl_app lit22 fr rfl rfl rfl rfl rfl rfl rfl rfl hy hc S ?_
          intro w A26 c27 S
          have S : Sat w0 _ [ownA .u8 5 A26 c27 (l20 ++ [(0 : Int)])] := S.mask [true, false]
          intro a fr
          refine wl_run orc_ok 1 rfl fr fun a fr => ?_
          refine wpList_nil ?_
          refine blk_n ?_
          exact ⟨A26, c27, (l20 ++ [(0 : Int)]), fr.sub ⟨rfl, trivial⟩, S, h⟩
        · refine wp_exit ?_
          refine then_e ?_
          refine then_e ?_
          refine blk_y ?_
          refine then_n ?_
          refine wp_seq ?_
          refine wp_region_lit ?_
          refine wl_run orc_ok 3 rfl fr fun a fr => ?_
          refine wpList_nil ?_
          refine then_n ?_
          refine wp_ret ?_
          injection h with h
          subst h
          refine ret2 fr rfl rfl rfl ?_
          exact ⟨A18, c19, rfl, (by show List.all _ vokC = true; simp only [List.all_cons, List.all_nil, Bool.and_true, Bool.and_eq_true]; exact ⟨fr.vok (d := 2) rfl, fr.vok (d := 3) rfl⟩), S.mask [true]⟩
  exact (key w rfl (Sat.start w)).mono fun e w' ⟨A800, c800, h1, h2, h3⟩ => ⟨A800, c800, h1, h2, S.join h3 (fun A hA F => by simp only [List.mem_cons, List.not_mem_nil, or_false] at hA; subst hA; exact own_lower S.below.size F)⟩
set_option maxRecDepth 100000 in
set_option maxHeartbeats 4000000 in
theorem Get.walk (k : Nat) (A0 : Option Addr) (c0 : Nat) (l0 : List Int) {w0 w : World} {R : List Asn} (rk0 : Rk .u8 w A0 l0) (m0 : l0.length ≤ c0 ∧ c0 ≤ maxLen) (S : Sat w0 w R) {r : List Int × Int × Int} (h : Get.f k l0 = some r) :
    Calls Tryd.prog 13 #[(.slice A0 (List.length l0) c0)] w fun e w' => ∃ A800 : Option Addr, ∃ c800 : Nat, e = .returned (.tuple #[(.slice A800 (List.length r.1) c800), (.int .i64 r.2.1), (.int .i64 r.2.2)]) ∧ vok (.tuple #[(.slice A800 (List.length r.1) c800), (.int .i64 r.2.1), (.int .i64 r.2.2)]) = true ∧ Sat w0 w' (ownA .u8 5 A800 c800 r.1 :: R) := by
  have key : ∀ w0 : World, w0 = w → Sat w0 w [] → Calls Tryd.prog 13 #[(.slice A0 (List.length l0) c0)] w fun e w' => ∃ A800 : Option Addr, ∃ c800 : Nat, e = .returned (.tuple #[(.slice A800 (List.length r.1) c800), (.int .i64 r.2.1), (.int .i64 r.2.2)]) ∧ vok (.tuple #[(.slice A800 (List.length r.1) c800), (.int .i64 r.2.1), (.int .i64 r.2.2)]) = true ∧ Sat w0 w' [ownA .u8 5 A800 c800 r.1] := by
    clear S
    intro w0 hw S
    rw [← hw] at rk0
    clear hw
    unfold Get.f at h
    refine calls_start (N := 64) [(.slice A0 (List.length l0) c0)] Tryd.func13 rfl rfl rfl (vok_c (vok_sl m0) rfl) fun a fr => ?_
    refine wp_seq ?_
    refine wp_region_lit ?_
    refine wl_run orc_ok 3 rfl fr fun a fr => ?_
    refine wpList_nil ?_
    refine then_n ?_
    refine wp_seq ?_
    refine wp_seq ?_
    refine wp_region_lit ?_
    refine wl_run orc_ok 3 rfl fr fun a fr => ?_
    refine wpList_nil ?_
    refine then_n ?_
    refine cw_if fr rfl h (fun h => ?_) (fun h => ?_)
    · refine wp_seq ?_
      refine wp_region_lit ?_
      refine wl_run orc_ok 3 rfl fr fun a fr => ?_
      refine wpList_nil ?_
      refine then_n ?_
      refine wp_ret ?_
      refine then_r ?_
      have S : Sat w0 _ [ownA .u8 5 none 0 ([] : List Int)] := S.nilRow .u8 5
      injection h with h
      subst h
      refine ret3 fr rfl rfl rfl rfl ?_
      exact ⟨none, 0, rfl, (by show List.all _ vokC = true; simp only [List.all_cons, List.all_nil, Bool.and_true, Bool.and_eq_true]; exact ⟨fr.vok (d := 2) rfl, fr.vok (d := 3) rfl, fr.vok (d := 4) rfl⟩), S.mask [true]⟩
    · refine wp_skip ?_
      refine then_n ?_
      refine wp_seq ?_
      refine wp_region_sl [.one (0, true, some 13), .one (1, true, some 14), .one (2, true, some 15), .one (3, true, some 16), .one (4, true, some 17), .one (5, true, some 18), .one (6, true, some 19), .one (7, true, some 20), .one (8, true, some 21), .one (9, true, some 22), .one (10, true, some 23), .one (11, true, some 24), .one (12, true, some 25), .one (13, true, some 26), .one (14, true, some 27), .one (15, true, some 28), .one (16, true, some 29), .one (17, true, some 30), .one (18, true, some 31), .one (19, true, some 32), .one (20, true, some 33), .one (21, true, some 34), .one (22, true, some 5)]
        [.one ⟨true, some 13, (Go.Op.move (Go.Operand.tmp 0)), 22, none⟩,
    .one ⟨true, some 14, (Go.Op.indexAddr 22 (Go.Operand.tmp 13) (Go.Operand.const (Go.Value.int Go.IntKind.i64 0))), 0, none⟩,
    .one ⟨true, some 15, (Go.Op.load 5 (Go.Operand.tmp 14)), 5, none⟩,
    .one ⟨true, some 16, (Go.Op.convert 5 2 (Go.Operand.tmp 15)), 2, none⟩,
    .one ⟨true, some 17, (Go.Op.binOp Go.BinOp.mul 2 (Go.Operand.const (Go.Value.int Go.IntKind.i64 16777216)) (Go.Operand.tmp 16) 2), 2, none⟩,
    .one ⟨true, some 18, (Go.Op.move (Go.Operand.tmp 0)), 22, none⟩,
    .one ⟨true, some 19, (Go.Op.indexAddr 22 (Go.Operand.tmp 18) (Go.Operand.const (Go.Value.int Go.IntKind.i64 1))), 0, none⟩,
    .one ⟨true, some 20, (Go.Op.load 5 (Go.Operand.tmp 19)), 5, none⟩,
    .one ⟨true, some 21, (Go.Op.convert 5 2 (Go.Operand.tmp 20)), 2, none⟩,
    .one ⟨true, some 22, (Go.Op.binOp Go.BinOp.mul 2 (Go.Operand.const (Go.Value.int Go.IntKind.i64 65536)) (Go.Operand.tmp 21) 2), 2, none⟩,
    .one ⟨true, some 23, (Go.Op.binOp Go.BinOp.add 2 (Go.Operand.tmp 17) (Go.Operand.tmp 22) 2), 2, none⟩,
    .one ⟨true, some 24, (Go.Op.move (Go.Operand.tmp 0)), 22, none⟩,
    .one ⟨true, some 25, (Go.Op.indexAddr 22 (Go.Operand.tmp 24) (Go.Operand.const (Go.Value.int Go.IntKind.i64 2))), 0, none⟩,
    .one ⟨true, some 26, (Go.Op.load 5 (Go.Operand.tmp 25)), 5, none⟩,
    .one ⟨true, some 27, (Go.Op.convert 5 2 (Go.Operand.tmp 26)), 2, none⟩,
    .one ⟨true, some 28, (Go.Op.binOp Go.BinOp.mul 2 (Go.Operand.const (Go.Value.int Go.IntKind.i64 256)) (Go.Operand.tmp 27) 2), 2, none⟩,
    .one ⟨true, some 29, (Go.Op.binOp Go.BinOp.add 2 (Go.Operand.tmp 23) (Go.Operand.tmp 28) 2), 2, none⟩,
    .one ⟨true, some 30, (Go.Op.move (Go.Operand.tmp 0)), 22, none⟩,
    .one ⟨true, some 31, (Go.Op.indexAddr 22 (Go.Operand.tmp 30) (Go.Operand.const (Go.Value.int Go.IntKind.i64 3))), 0, none⟩,
    .one ⟨true, some 32, (Go.Op.load 5 (Go.Operand.tmp 31)), 5, none⟩,
    .one ⟨true, some 33, (Go.Op.convert 5 2 (Go.Operand.tmp 32)), 2, none⟩,
    .one ⟨true, some 34, (Go.Op.binOp Go.BinOp.add 2 (Go.Operand.tmp 29) (Go.Operand.tmp 33) 2), 2, none⟩,
    .one ⟨true, some 5, (Go.Op.assign (Go.Operand.tmp 34)), 2, none⟩]
        (fun w => Sat w0 w []) rfl (by kernel_rfl) (by kernel_rfl) (S.drew.mask []) ?_
      have S := S.drew
      refine sl_run orc_ok 1 rfl fr fun a fr => ?_
      obtain ⟨hc, h⟩ := ifs h
      refine sl_ld orc_ok (fun _ S => Rk.at rk0 S) fr rfl rfl rfl rfl rfl rfl rfl rfl rfl rfl rfl rfl rfl rfl rfl rfl rfl rfl hc (Sat.mask S []) fun a fr => ?_
      refine sl_run orc_ok 3 rfl fr fun a fr => ?_
      obtain ⟨hc, h⟩ := ifs h
      refine sl_ld orc_ok (fun _ S => Rk.at rk0 S) fr rfl rfl rfl rfl rfl rfl rfl rfl rfl rfl rfl rfl rfl rfl rfl rfl rfl rfl hc (Sat.mask S []) fun a fr => ?_
      refine sl_run orc_ok 4 rfl fr fun a fr => ?_
      obtain ⟨hc, h⟩ := ifs h
      refine sl_ld orc_ok (fun _ S => Rk.at rk0 S) fr rfl rfl rfl rfl rfl rfl rfl rfl rfl rfl rfl rfl rfl rfl rfl rfl rfl rfl hc (Sat.mask S []) fun a fr => ?_
      refine sl_run orc_ok 4 rfl fr fun a fr => ?_
      obtain ⟨hc, h⟩ := ifs h
      refine sl_ld orc_ok (fun _ S => Rk.at rk0 S) fr rfl rfl rfl rfl rfl rfl rfl rfl rfl rfl rfl rfl rfl rfl rfl rfl rfl rfl hc (Sat.mask S []) fun a fr => ?_
      refine sl_run orc_ok 3 rfl fr fun a fr => ?_
      refine sl_end ?_
      refine then_n ?_
      refine wp_seq ?_
      refine wp_seq ?_
      refine wp_region_lit ?_
      refine wl_run orc_ok 2 rfl fr fun a fr => ?_
      refine wpList_nil ?_
      refine then_n ?_
      refine cw_if fr rfl h (fun h => ?_) (fun h => ?_)
      · refine wp_seq ?_
        refine wp_region_lit ?_
        refine wl_run orc_ok 3 rfl fr fun a fr => ?_
        refine wpList_nil ?_
        refine then_n ?_
        refine wp_ret ?_
        refine then_r ?_
        have S : Sat w0 _ [ownA .u8 5 none 0 ([] : List Int)] := S.nilRow .u8 5
        injection h with h
        subst h
        refine ret3 fr rfl rfl rfl rfl ?_
        exact ⟨none, 0, rfl, (by show List.all _ vokC = true; simp only [List.all_cons, List.all_nil, Bool.and_true, Bool.and_eq_true]; exact ⟨fr.vok (d := 2) rfl, fr.vok (d := 3) rfl, fr.vok (d := 4) rfl⟩), S.mask [true]⟩
      · refine wp_skip ?_
        refine then_n ?_
        refine wp_seq ?_
        refine wp_region_lit ?_
        refine wl_run orc_ok 1 rfl fr fun a fr => ?_
        obtain ⟨r1, hr, h⟩ := bnd h
        refine wl_call fr rfl rfl rfl rfl en59 (Sectors.walk (IntKind.wrap .i64 ((IntKind.wrap .i64 ((IntKind.wrap .i64 ((IntKind.wrap .i64 ((16777216 : Int) * (IntKind.wrap .i64 (List.getD l0 (Int.toNat (0 : Int)) 0)))) + (IntKind.wrap .i64 ((65536 : Int) * (IntKind.wrap .i64 (List.getD l0 (Int.toNat (1 : Int)) 0)))))) + (IntKind.wrap .i64 ((256 : Int) * (IntKind.wrap .i64 (List.getD l0 (Int.toNat (2 : Int)) 0)))))) + (IntKind.wrap .i64 (List.getD l0 (Int.toNat (3 : Int)) 0)))) (fr.int (d := 37) rfl) S hr) ?_
        rintro _ w ⟨rfl, hv, S⟩
        refine ⟨_, rfl, hv, fun a fr => ?_⟩
        refine wl_run orc_ok 1 rfl fr fun a fr => ?_
        refine wpList_nil ?_
        refine then_n ?_
        refine wp_seq ?_
        refine wp_seq ?_
        refine wp_region_lit ?_
        refine wl_run orc_ok 5 rfl fr fun a fr => ?_
        refine wpList_nil ?_
        refine then_n ?_
        refine cw_if fr rfl h (fun h => ?_) (fun h => ?_)
        · refine wp_seq ?_
          refine wp_region_lit ?_
          refine wl_run orc_ok 3 rfl fr fun a fr => ?_
          refine wpList_nil ?_
          refine then_n ?_
          refine wp_ret ?_
          refine then_r ?_
          have S : Sat w0 _ [ownA .u8 5 none 0 ([] : List Int)] := S.nilRow .u8 5
          injection h with h
          subst h
          refine ret3 fr rfl rfl rfl rfl ?_
          exact ⟨none, 0, rfl, (by show List.all _ vokC = true; simp only [List.all_cons, List.all_nil, Bool.and_true, Bool.and_eq_true]; exact ⟨fr.vok (d := 2) rfl, fr.vok (d := 3) rfl, fr.vok (d := 4) rfl⟩), S.mask [true]⟩
        · refine wp_skip ?_
          refine then_n ?_
          refine wp_seq ?_
          refine wp_region_lit ?_
          refine wl_run orc_ok 3 rfl fr fun a fr => ?_
          obtain ⟨hc, h⟩ := ifs h
          have hm2 : (List.take (Int.toNat (IntKind.wrap .i64 ((8 : Int) + (IntKind.wrap .i64 ((IntKind.wrap .i64 ((IntKind.wrap .i64 ((IntKind.wrap .i64 ((16777216 : Int) * (IntKind.wrap .i64 (List.getD l0 (Int.toNat (0 : Int)) 0)))) + (IntKind.wrap .i64 ((65536 : Int) * (IntKind.wrap .i64 (List.getD l0 (Int.toNat (1 : Int)) 0)))))) + (IntKind.wrap .i64 ((256 : Int) * (IntKind.wrap .i64 (List.getD l0 (Int.toNat (2 : Int)) 0)))))) + (IntKind.wrap .i64 (List.getD l0 (Int.toNat (3 : Int)) 0))))))) l0).length ≤ c0 := (by rw [List.length_take]; exact Nat.le_trans (Nat.min_le_right _ _) (fr.slice (d := 44) rfl).1)
          refine wl_mid orc_ok (l := l0) fr rfl rfl rfl rfl rfl rfl rfl rfl info5 rfl hc fun a fr => ?_
          obtain ⟨hc, h⟩ := ifs h
          have S : Sat w0 _ [ownA .u8 5 none 0 ([] : List Int)] := S.nilRow .u8 5
          have hy := (Rk.at (Rk.drop (n := Int.toNat (8 : Int)) ((Rk.take (rk0) (Int.toNat (IntKind.wrap .i64 ((8 : Int) + (IntKind.wrap .i64 ((IntKind.wrap .i64 ((IntKind.wrap .i64 ((IntKind.wrap .i64 ((16777216 : Int) * (IntKind.wrap .i64 (List.getD l0 (Int.toNat (0 : Int)) 0)))) + (IntKind.wrap .i64 ((65536 : Int) * (IntKind.wrap .i64 (List.getD l0 (Int.toNat (1 : Int)) 0)))))) + (IntKind.wrap .i64 ((256 : Int) * (IntKind.wrap .i64 (List.getD l0 (Int.toNat (2 : Int)) 0)))))) + (IntKind.wrap .i64 (List.getD l0 (Int.toNat (3 : Int)) 0))))))))) hm2) S)
          refine wl_app lit22 fr rfl rfl rfl rfl rfl rfl rfl rfl hy hc S ?_
          intro w A3 c4 S
          intro a fr
          refine wl_run orc_ok 1 rfl fr fun a fr => ?_
          refine wpList_nil ?_
          refine then_n ?_
          refine wp_seq ?_
          refine wp_region_lit ?_
          refine wl_run orc_ok 1 rfl fr fun a fr => ?_
          obtain ⟨r5, hr, h⟩ := bnd h
          refine wl_call fr rfl rfl rfl rfl en7 (Put.walk k A3 c4 (([] : List Int) ++ (List.drop (Int.toNat (8 : Int)) (List.take (Int.toNat (IntKind.wrap .i64 ((8 : Int) + (IntKind.wrap .i64 ((IntKind.wrap .i64 ((IntKind.wrap .i64 ((IntKind.wrap .i64 ((16777216 : Int) * (IntKind.wrap .i64 (List.getD l0 (Int.toNat (0 : Int)) 0)))) + (IntKind.wrap .i64 ((65536 : Int) * (IntKind.wrap .i64 (List.getD l0 (Int.toNat (1 : Int)) 0)))))) + (IntKind.wrap .i64 ((256 : Int) * (IntKind.wrap .i64 (List.getD l0 (Int.toNat (2 : Int)) 0)))))) + (IntKind.wrap .i64 (List.getD l0 (Int.toNat (3 : Int)) 0))))))) l0))) (Sat.ownAt S 0 rfl) (fr.slice (d := 50) rfl) S hr) ?_
          rintro _ w ⟨A6, c7, rfl, hv, S⟩
          refine ⟨_, rfl, hv, fun a fr => ?_⟩
          refine wl_run orc_ok 5 rfl fr fun a fr => ?_
          refine wpList_nil ?_
          refine then_n ?_
          refine wp_seq ?_
          refine wp_seq ?_
          refine wp_region_sl [.one (0, true, some 54), .one (1, true, some 55), .one (2, true, some 56), .one (3, true, some 57), .one (4, true, some 58), .one (5, true, some 59), .one (6, true, some 60), .one (7, true, some 61)]
            [.one ⟨true, some 54, (Go.Op.move (Go.Operand.tmp 8)), 22, none⟩,
    .one ⟨true, some 55, (Go.Op.convert 22 9 (Go.Operand.tmp 54)), 9, none⟩,
    .one ⟨true, some 56, (Go.Op.move (Go.Operand.tmp 0)), 22, none⟩,
    .one ⟨true, some 57, (Go.Op.move (Go.Operand.tmp 6)), 3, none⟩,
    .one ⟨true, some 58, (Go.Op.binOp Go.BinOp.mul 3 (Go.Operand.tmp 57) (Go.Operand.const (Go.Value.int Go.IntKind.i64 64)) 3), 3, none⟩,
    .one ⟨true, some 59, (Go.Op.slice 22 (Go.Operand.tmp 56) none (some (Go.Operand.tmp 58)) none), 22, none⟩,
    .one ⟨true, some 60, (Go.Op.convert 22 9 (Go.Operand.tmp 59)), 9, none⟩,
    .one ⟨true, some 61, (Go.Op.binOp Go.BinOp.neq 9 (Go.Operand.tmp 55) (Go.Operand.tmp 60) 9), 4, none⟩]
            (fun w => Sat w0 w [ownA .u8 5 A6 c7 r5.1, ownA .u8 5 A3 c4 (([] : List Int) ++ (List.drop (Int.toNat (8 : Int)) (List.take (Int.toNat (IntKind.wrap .i64 ((8 : Int) + (IntKind.wrap .i64 ((IntKind.wrap .i64 ((IntKind.wrap .i64 ((IntKind.wrap .i64 ((16777216 : Int) * (IntKind.wrap .i64 (List.getD l0 (Int.toNat (0 : Int)) 0)))) + (IntKind.wrap .i64 ((65536 : Int) * (IntKind.wrap .i64 (List.getD l0 (Int.toNat (1 : Int)) 0)))))) + (IntKind.wrap .i64 ((256 : Int) * (IntKind.wrap .i64 (List.getD l0 (Int.toNat (2 : Int)) 0)))))) + (IntKind.wrap .i64 (List.getD l0 (Int.toNat (3 : Int)) 0))))))) l0)))]) rfl (by kernel_rfl) (by kernel_rfl) (S.drew.mask [true, true]) ?_
          have S := S.drew
          refine sl_run orc_ok 1 rfl fr fun a fr => ?_
          refine sl_convq Tryd.underlying22 Tryd.underlying5 Tryd.underlying9 (fun _ S => Sat.ownAt S 0 rfl) fr rfl rfl rfl rfl rfl rfl rfl fun a fr => ?_
          refine sl_run orc_ok 3 rfl fr fun a fr => ?_
          obtain ⟨hc, h⟩ := ifs h
          refine sl_takeq orc_ok fr rfl rfl rfl rfl rfl rfl rfl rfl rfl rfl hc fun a fr => ?_
          refine sl_convq Tryd.underlying22 Tryd.underlying5 Tryd.underlying9 (fun _ S => Rk.at (Rk.take rk0 (Int.toNat (IntKind.wrap .i64 (r1 * (64 : Int))))) S) fr rfl rfl rfl rfl rfl rfl rfl fun a fr => ?_
          refine sl_run orc_ok 1 rfl fr fun a fr => ?_
          refine sl_end ?_
          refine then_n ?_
          refine cw_if fr rfl h (fun h => ?_) (fun h => ?_)
          · refine wp_seq ?_
            refine wp_region_lit ?_
            refine wl_run orc_ok 3 rfl fr fun a fr => ?_
            refine wpList_nil ?_
            refine then_n ?_
            refine wp_ret ?_
            refine then_r ?_
            have S : Sat w0 _ [ownA .u8 5 none 0 ([] : List Int), ownA .u8 5 A6 c7 r5.1, ownA .u8 5 A3 c4 (([] : List Int) ++ (List.drop (Int.toNat (8 : Int)) (List.take (Int.toNat (IntKind.wrap .i64 ((8 : Int) + (IntKind.wrap .i64 ((IntKind.wrap .i64 ((IntKind.wrap .i64 ((IntKind.wrap .i64 ((16777216 : Int) * (IntKind.wrap .i64 (List.getD l0 (Int.toNat (0 : Int)) 0)))) + (IntKind.wrap .i64 ((65536 : Int) * (IntKind.wrap .i64 (List.getD l0 (Int.toNat (1 : Int)) 0)))))) + (IntKind.wrap .i64 ((256 : Int) * (IntKind.wrap .i64 (List.getD l0 (Int.toNat (2 : Int)) 0)))))) + (IntKind.wrap .i64 (List.getD l0 (Int.toNat (3 : Int)) 0))))))) l0)))] := S.nilRow .u8 5
            injection h with h
            subst h
            refine ret3 fr rfl rfl rfl rfl ?_
            exact ⟨none, 0, rfl, (by show List.all _ vokC = true; simp only [List.all_cons, List.all_nil, Bool.and_true, Bool.and_eq_true]; exact ⟨fr.vok (d := 2) rfl, fr.vok (d := 3) rfl, fr.vok (d := 4) rfl⟩), S.mask [true, false, false]⟩
          · refine wp_skip ?_
            refine then_n ?_
            refine wp_seq ?_
            refine wp_region_lit ?_
            refine wl_run orc_ok 5 rfl fr fun a fr => ?_
            refine wpList_nil ?_
            refine then_n ?_
            refine wp_ret ?_
            have S : Sat w0 _ [ownA .u8 5 A3 c4 (([] : List Int) ++ (List.drop (Int.toNat (8 : Int)) (List.take (Int.toNat (IntKind.wrap .i64 ((8 : Int) + (IntKind.wrap .i64 ((IntKind.wrap .i64 ((IntKind.wrap .i64 ((IntKind.wrap .i64 ((16777216 : Int) * (IntKind.wrap .i64 (List.getD l0 (Int.toNat (0 : Int)) 0)))) + (IntKind.wrap .i64 ((65536 : Int) * (IntKind.wrap .i64 (List.getD l0 (Int.toNat (1 : Int)) 0)))))) + (IntKind.wrap .i64 ((256 : Int) * (IntKind.wrap .i64 (List.getD l0 (Int.toNat (2 : Int)) 0)))))) + (IntKind.wrap .i64 (List.getD l0 (Int.toNat (3 : Int)) 0))))))) l0))), ownA .u8 5 A6 c7 r5.1] := S.frontAt 1 rfl
            injection h with h
            subst h
            refine ret3 fr rfl rfl rfl rfl ?_
            exact ⟨A3, c4, rfl, (by show List.all _ vokC = true; simp only [List.all_cons, List.all_nil, Bool.and_true, Bool.and_eq_true]; exact ⟨fr.vok (d := 2) rfl, fr.vok (d := 3) rfl, fr.vok (d := 4) rfl⟩), S.mask [true, false]⟩
  exact (key w rfl (Sat.start w)).mono fun e w' ⟨A800, c800, h1, h2, h3⟩ => ⟨A800, c800, h1, h2, S.join h3 (fun A hA F => by simp only [List.mem_cons, List.not_mem_nil, or_false] at hA; subst hA; exact own_lower S.below.size F)⟩
set_option maxRecDepth 100000 in
set_option maxHeartbeats 4000000 in
theorem FramesGet.walk (k : Nat) (A0 : Option Addr) (c0 : Nat) (l0 : List Int) {w0 w : World} {R : List Asn} (rk0 : Rk .u8 w A0 l0) (m0 : l0.length ≤ c0 ∧ c0 ≤ maxLen) (S : Sat w0 w R) {r : Bool} (h : FramesGet.f k l0 = some r) :
    Calls Tryd.prog 4 #[(.slice A0 (List.length l0) c0)] w fun e w' => e = .returned (.bool r) ∧ vok (.bool r) = true ∧ Sat w0 w' R := by
  have key : ∀ w0 : World, w0 = w → Sat w0 w [] → Calls Tryd.prog 4 #[(.slice A0 (List.length l0) c0)] w fun e w' => e = .returned (.bool r) ∧ vok (.bool r) = true ∧ Sat w0 w' [] := by
    clear S
    intro w0 hw S
    rw [← hw] at rk0
    clear hw
    unfold FramesGet.f at h
    refine calls_start (N := 71) [(.slice A0 (List.length l0) c0)] Tryd.func4 rfl rfl rfl (vok_c (vok_sl m0) rfl) fun a fr => ?_
    refine wp_seq ?_
    refine wp_region_lit ?_
    refine wl_run orc_ok 1 rfl fr fun a fr => ?_
    refine wpList_nil ?_
    refine then_n ?_
    refine wp_seq ?_
    refine wp_seq ?_
    refine wp_region_lit ?_
    refine wl_run orc_ok 3 rfl fr fun a fr => ?_
    refine wpList_nil ?_
    refine then_n ?_
    refine cw_if fr rfl h (fun h => ?_) (fun h => ?_)
    · refine wp_seq ?_
      refine wp_region_lit ?_
      refine wl_run orc_ok 1 rfl fr fun a fr => ?_
      refine wpList_nil ?_
      refine then_n ?_
      refine wp_ret ?_
      refine then_r ?_
      injection h with h
      subst h
      refine ret1 fr rfl rfl ?_
      exact ⟨rfl, fr.vok (d := 2) rfl, S.mask []⟩
    · refine wp_skip ?_
      refine then_n ?_
      refine wp_seq ?_
      refine wp_region_lit ?_
      refine wl_run orc_ok 1 rfl fr fun a fr => ?_
      obtain ⟨hc, h⟩ := ifs h
      refine wl_call fr rfl rfl rfl rfl en5 (twinb_call (Rk.at rk0 S) hc S) ?_
      rintro _ w ⟨A1, c2, rfl, hv, S⟩
      refine ⟨_, rfl, hv, fun a fr => ?_⟩
      refine wl_run orc_ok 1 rfl fr fun a fr => ?_
      refine wpList_nil ?_
      refine then_n ?_
      refine wp_seq ?_
      refine wp_region_lit ?_
      refine wl_run orc_ok 1 rfl fr fun a fr => ?_
      obtain ⟨hc, h⟩ := ifs h
      obtain ⟨l3, hn0, h⟩ := lt_h h
      obtain ⟨y5, hn1, h⟩ := lt_h h
      obtain ⟨y4, hn2, h⟩ := lt_h h
      have H := fget_call (A := A1) (c := c2) (b := l0) (Sat.twbAt S 0 rfl) (fr.slice (d := 20) rfl) hc S
      rw [hn0, hn1, hn2] at H
      refine wl_call fr rfl rfl rfl rfl en12 H ?_
      clear H
      rintro _ w ⟨A6, c7, rfl, hv, S⟩
      refine ⟨_, rfl, hv, fun a fr => ?_⟩
      refine wl_run orc_ok 7 rfl fr fun a fr => ?_
      refine wpList_nil ?_
      refine then_n ?_
      refine wp_seq ?_
      refine wp_region_lit ?_
      refine wl_run orc_ok 1 rfl fr fun a fr => ?_
      obtain ⟨hc, h⟩ := ifs h
      obtain ⟨l8, hn0, h⟩ := lt_h h
      obtain ⟨y10, hn1, h⟩ := lt_h h
      obtain ⟨y9, hn2, h⟩ := lt_h h
      have H := fget_call (A := A1) (c := c2) (b := l0) (Sat.twbAt S 1 rfl) (fr.slice (d := 26) rfl) hc S
      rw [hn0, hn1, hn2] at H
      refine wl_call fr rfl rfl rfl rfl en12 H ?_
      clear H
      rintro _ w ⟨A11, c12, rfl, hv, S⟩
      refine ⟨_, rfl, hv, fun a fr => ?_⟩
      refine wl_run orc_ok 7 rfl fr fun a fr => ?_
      refine wpList_nil ?_
      refine then_n ?_
      refine wp_seq ?_
      refine wp_region_lit ?_
      refine wl_run orc_ok 1 rfl fr fun a fr => ?_
      obtain ⟨r13, hr, h⟩ := bnd h
      refine wl_call fr rfl rfl rfl rfl en13 (Get.walk k A0 c0 l0 (Rk.at rk0 S) (fr.slice (d := 32) rfl) S hr) ?_
      rintro _ w ⟨A14, c15, rfl, hv, S⟩
      refine ⟨_, rfl, hv, fun a fr => ?_⟩
      refine wl_run orc_ok 7 rfl fr fun a fr => ?_
      refine wpList_nil ?_
      refine then_n ?_
      refine wp_seq ?_
      refine wp_seq ?_
      refine wp_region_lit ?_
      refine wl_run orc_ok 2 rfl fr fun a fr => ?_
      obtain ⟨hc, h⟩ := ifs h
      obtain ⟨y16, hn0, h⟩ := lt_h h
      have H := same_call (A := A6) (ca := c7) (a := l3) (B := A14) (cb := c15) (b := r13.1) (Sat.ownAt S 2 rfl) (Sat.ownAt S 0 rfl) hc S
      rw [hn0] at H
      refine wl_call fr rfl rfl rfl rfl en8 H ?_
      clear H
      rintro _ w ⟨rfl, S⟩
      refine ⟨_, rfl, rfl, fun a fr => ?_⟩
      refine wl_run orc_ok 2 rfl fr fun a fr => ?_
      refine wl_split 41 fr rfl h (fun fr h => ?_) (fun fr h => ?_)
      · cases h
      · refine wl_run orc_ok 2 rfl fr fun a fr => ?_
        obtain ⟨hc, h⟩ := ifs h
        obtain ⟨y17, hn0, h⟩ := lt_h h
        have H := same_call (A := A11) (ca := c12) (a := l8) (B := A14) (cb := c15) (b := r13.1) (Sat.ownAt S 1 rfl) (Sat.ownAt S 0 rfl) hc S
        rw [hn0] at H
        refine wl_call fr rfl rfl rfl rfl en8 H ?_
        clear H
        rintro _ w ⟨rfl, S⟩
        refine ⟨_, rfl, rfl, fun a fr => ?_⟩
        refine wl_run orc_ok 3 rfl fr fun a fr => ?_
        refine wl_split 47 fr rfl h (fun fr h => ?_) (fun fr h => ?_)
        · cases h
        · refine wl_run orc_ok 5 rfl fr fun a fr => ?_
          refine wl_split 52 fr rfl h (fun fr h => ?_) (fun fr h => ?_)
          · cases h
          · refine wl_run orc_ok 5 rfl fr fun a fr => ?_
            refine wl_split 57 fr rfl h (fun fr h => ?_) (fun fr h => ?_)
            · cases h
            · refine wl_run orc_ok 2 rfl fr fun a fr => ?_
              have S : Sat w0 _ [twbA A1 c2 l0, ownA .u8 5 A14 c15 r13.1, ownA .u8 5 A11 c12 l8, ownA .u8 5 A6 c7 l3] := S.frontAt 3 rfl
              obtain ⟨hc, h⟩ := ifs h
              refine wl_call fr rfl rfl rfl rfl en9 (leftb_call (Rk.at rk0 S) hc S) ?_
              rintro _ w ⟨rfl, S⟩
              refine ⟨_, rfl, rfl, fun a fr => ?_⟩
              refine wl_run orc_ok 2 rfl fr fun a fr => ?_
              refine wpList_nil ?_
              refine then_n ?_
              refine cw_f fr rfl ?_
              refine wp_skip ?_
              refine then_n ?_
              refine wp_seq ?_
              refine wp_region_lit ?_
              refine wl_build (cs := (Value.int .i64 0 :: List.replicate 12 (Value.slice none 0 0))) (L2 := []) fr rfl rfl rfl rfl (by simp) (by kernel_rfl) rfl fun a fr => ?_
              refine wl_allocg fr rfl rfl rfl rfl zeroBook rfl S ?_
              intro w g18 S a fr
              refine wl_stg orc_ok (cs := (Value.int .i64 0 :: List.replicate 12 (Value.slice none 0 0))) (vs := (Value.int .i64 0 :: List.replicate 12 (Value.slice none 0 0))) fr rfl rfl rfl rfl rfl rfl rfl rfl S ?_
              intro w S
              have S := S.newBook
              refine wpList_nil ?_
              refine then_n ?_
              refine wp_seq ?_
              refine wp_region_lit ?_
              refine wl_run orc_ok 1 rfl fr fun a fr => ?_
              obtain ⟨hc, h⟩ := ifs h
              have S : Sat w0 _ [twbA A1 c2 l0, bookA g18 (0 : Int), ownA .u8 5 A14 c15 r13.1, ownA .u8 5 A11 c12 l8, ownA .u8 5 A6 c7 l3] := S.frontAt 1 rfl
              have S := S.twbOwn
              refine wl_call fr rfl rfl rfl rfl en10 (book_bytes hc S) ?_
              rintro _ w ⟨rfl, S⟩
              refine ⟨_, rfl, rfl, fun a fr => ?_⟩
              refine wpList_nil ?_
              refine then_n ?_
              refine wp_seq ?_
              refine wp_region_lit ?_
              refine wl_run orc_ok 1 rfl fr fun a fr => ?_
              obtain ⟨hc, h⟩ := ifs h
              have S : Sat w0 _ [ownA .u8 5 A6 c7 l3, bookA g18 ((0 : Int) + 1), ownA .u8 5 A14 c15 r13.1, ownA .u8 5 A11 c12 l8] := S.frontAt 3 rfl
              refine wl_call fr rfl rfl rfl rfl en10 (book_bytes hc S) ?_
              rintro _ w ⟨rfl, S⟩
              refine ⟨_, rfl, rfl, fun a fr => ?_⟩
              refine wpList_nil ?_
              refine then_n ?_
              refine wp_seq ?_
              refine wp_region_lit ?_
              refine wl_run orc_ok 1 rfl fr fun a fr => ?_
              obtain ⟨hc, h⟩ := ifs h
              have S : Sat w0 _ [ownA .u8 5 A11 c12 l8, bookA g18 (((0 : Int) + 1) + 1), ownA .u8 5 A14 c15 r13.1] := S.frontAt 2 rfl
              refine wl_call fr rfl rfl rfl rfl en10 (book_bytes hc S) ?_
              rintro _ w ⟨rfl, S⟩
              refine ⟨_, rfl, rfl, fun a fr => ?_⟩
              refine wpList_nil ?_
              refine then_n ?_
              refine wp_seq ?_
              refine wp_region_lit ?_
              refine wl_call fr rfl rfl rfl rfl en11 (book_apart S) ?_
              rintro _ w ⟨rfl, S⟩
              refine ⟨_, rfl, rfl, fun a fr => ?_⟩
              refine wl_run orc_ok 1 rfl fr fun a fr => ?_
              refine wpList_nil ?_
              refine then_n ?_
              refine wp_ret ?_
              injection h with h
              subst h
              refine ret1 fr rfl rfl ?_
              exact ⟨rfl, fr.vok (d := 2) rfl, S.mask [false]⟩
  exact (key w rfl (Sat.start w)).mono fun e w' ⟨h1, h2, h3⟩ => ⟨h1, h2, S.new h3.below⟩
end Go.Proofs.YticnjkdaccacaaaDoor.Pl
