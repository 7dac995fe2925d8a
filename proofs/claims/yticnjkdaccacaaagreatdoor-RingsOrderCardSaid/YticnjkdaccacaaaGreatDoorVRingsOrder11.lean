/- Texts of this work, one behind the other. -/
import Derived.Test.YticnjkdaccacaaaGreatDoorVRingsOrder10
import Derived.Test.YticnjkdaccacaaaGreatDoorProg
import Derived.IntWalk
import Derived.Test.YticnjkdaccacaaaGreatDoorRows
import Derived.Test.YticnjkdaccacaaaGreatDoorCards
import Derived.Test.YticnjkdaccacaaaGreatDoorTie
import Derived.WalkKit
import Derived.ProofKit
import Derived.OpenShut
import Derived.ShutString
import Derived.ChangeOld
import Derived.Below
import Derived.SizedLaws
import Derived.KernelRfl
import Derived.LaidMore
import Derived.Stop.Joined
import Derived.SevenTiedAt
section
/- Walks over the program's functions, printed by a program of this work (wip/tools/shal.py): each call does what the plain function says. -/
namespace Go.Proofs.YticnjkdaccacaaaGreatDoor.Pl
open Go Go.RowKit Sx Base Own

def orc : Orc := ⟨[(4, .bool), (44, .struct #[Go.Field.mk "n" 3 0 false "" "concordat/concordatlaw01" 0, Go.Field.mk "bytes" 31 1 false "" "concordat/concordatlaw01" 8, Go.Field.mk "ids" 32 2 false "" "concordat/concordatlaw01" 32, Go.Field.mk "ints" 33 3 false "" "concordat/concordatlaw01" 56, Go.Field.mk "texts" 34 4 false "" "concordat/concordatlaw01" 80, Go.Field.mk "rows" 35 5 false "" "concordat/concordatlaw01" 104, Go.Field.mk "ops" 36 6 false "" "concordat/concordatlaw01" 128, Go.Field.mk "spans" 37 7 false "" "concordat/concordatlaw01" 152, Go.Field.mk "changes" 38 8 false "" "concordat/concordatlaw01" 176, Go.Field.mk "results" 39 9 false "" "concordat/concordatlaw01" 200, Go.Field.mk "msgs" 40 10 false "" "concordat/concordatlaw01" 224, Go.Field.mk "parts" 41 11 false "" "concordat/concordatlaw01" 248, Go.Field.mk "deeds" 42 12 false "" "concordat/concordatlaw01" 272]), (86, .int .u32), (91, .slice 86)],
  [(44, 13), (86, 1)]⟩
theorem orc_ok : orc.Ok Tryz.prog := ⟨⟨Tryz.underlying4, Tryz.underlying44, Tryz.underlying86, Tryz.underlying91, trivial⟩, ⟨by kernel_rfl, by kernel_rfl, trivial⟩⟩
theorem en26 : Enters Tryz.prog 26 := fun _ _ => by kernel_rfl
theorem en44 : Enters Tryz.prog 44 := fun _ _ => by kernel_rfl
theorem en46 : Enters Tryz.prog 46 := fun _ _ => by kernel_rfl
theorem en49 : Enters Tryz.prog 49 := fun _ _ => by kernel_rfl
theorem en50 : Enters Tryz.prog 50 := fun _ _ => by kernel_rfl
theorem en51 : Enters Tryz.prog 51 := fun _ _ => by kernel_rfl
theorem en52 : Enters Tryz.prog 52 := fun _ _ => by kernel_rfl
theorem en139 : Enters Tryz.prog 139 := fun _ _ => by kernel_rfl
theorem info86 : (Tryz.prog.info? 86).map (·.size) = some 1 := by kernel_rfl
theorem lit91 : RowTy Tryz.prog 91 86 .u32 := ⟨Tryz.underlying91, 4, by decide, by kernel_rfl⟩
set_option maxRecDepth 100000 in
set_option maxHeartbeats 4000000 in
theorem in.walk (k : Nat) (A0 : Option Addr) (c0 : Nat) (l0 : List Int) (a1 : Int) {w0 w : World} {R : List Asn} (rk0 : Rk .u32 w A0 l0) (m0 : l0.length ≤ c0 ∧ c0 ≤ maxLen) (v1 : (Lit.int .u32 a1).wf = true) (S : Sat w0 w R) {r : Bool} (h : in.f k l0 a1 = some r) :
    Calls Tryz.prog 139 #[(.slice A0 (List.length l0) c0), (.int .u32 a1)] w fun e w' => e = .returned (.bool r) ∧ vok (.bool r) = true ∧ Sat w0 w' R := by
  have key : ∀ w0 : World, w0 = w → Sat w0 w [] → Calls Tryz.prog 139 #[(.slice A0 (List.length l0) c0), (.int .u32 a1)] w fun e w' => e = .returned (.bool r) ∧ vok (.bool r) = true ∧ Sat w0 w' [] := by
    clear S
    intro w0 hw S
    rw [← hw] at rk0
    clear hw
    unfold in.f at h
    refine calls_start (N := 18) [(.slice A0 (List.length l0) c0), (.int .u32 a1)] Tryz.func139 rfl rfl rfl (vok_c (vok_sl m0) (vok_c v1 rfl)) fun a fr => ?_
    refine wp_seq ?_
    refine wp_region_lit ?_
    refine wl_run orc_ok 1 rfl fr fun a fr => ?_
    refine wpList_nil ?_
    refine then_n ?_
    refine wp_seq ?_
    refine wp_seq ?_
    refine wp_region_lit ?_
    refine wl_run orc_ok 1 rfl fr fun a fr => ?_
    refine wpList_nil ?_
    refine then_n ?_
    refine wp_block ?_
    refine cw_loop (fun k1 a w => ∃ x1 : Int, Fr 18 a [(0, (.slice A0 (List.length l0) c0)), (1, (.int .u32 a1)), (5, (.int .i64 x1))] ∧ Sat w0 w [] ∧ (in.l1 k1 l0 a1 x1) = some r) k ⟨(0 : Int), fr.sub ⟨rfl, rfl, rfl, trivial⟩, S, h⟩ ?_ ?_
    · rintro a w ⟨x1, -, -, h⟩
      simp only [in.l1] at h
      cases h
    · rintro k1 a w ⟨x1, fr, S, h⟩
      rw [in.l1] at h
      refine wp_seq ?_
      refine wp_seq ?_
      refine wp_region_lit ?_
      refine wl_run orc_ok 4 rfl fr fun a fr => ?_
      refine wpList_nil ?_
      refine then_n ?_
      refine cw_if fr rfl h (fun h => ?_) (fun h => ?_)
      · refine wp_skip ?_
        refine then_n ?_
        refine wp_seq ?_
        refine wp_block ?_
        refine wp_seq ?_
        refine wp_region_lit ?_
        refine wl_run orc_ok 2 rfl fr fun a fr => ?_
        obtain ⟨hc, h⟩ := ifs h
        refine wl_ld orc_ok (Rk.at rk0 S) fr rfl rfl rfl rfl rfl rfl rfl rfl rfl rfl rfl rfl rfl rfl rfl rfl hc fun a fr => ?_
        refine wl_run orc_ok 2 rfl fr fun a fr => ?_
        refine wpList_nil ?_
        refine then_n ?_
        refine cw_if fr rfl h (fun h => ?_) (fun h => ?_)
        · refine wp_seq ?_
          refine wp_region_lit ?_
          refine wl_run orc_ok 1 rfl fr fun a fr => ?_
          refine wpList_nil ?_
          refine then_n ?_
          refine wp_ret ?_
          refine blk_r ?_
          refine then_r ?_
          refine then_r ?_
          refine blk_r ?_
          refine then_r ?_
          injection h with h
          subst h
          refine ret1 fr rfl rfl ?_
          exact ⟨rfl, fr.vok (d := 4) rfl, S.mask []⟩
        · refine wp_skip ?_
          refine blk_n ?_
          refine then_n ?_
          refine wp_region_lit ?_
          refine wl_run orc_ok 3 rfl fr fun a fr => ?_
          refine wpList_nil ?_
          exact ⟨(IntKind.wrap .i64 (x1 + (1 : Int))), fr.sub ⟨rfl, rfl, rfl, trivial⟩, S, h⟩
      · refine wp_exit ?_
        refine then_e ?_
        refine then_e ?_
        refine blk_y ?_
        refine then_n ?_
        refine wp_seq ?_
        refine wp_region_lit ?_
        refine wl_run orc_ok 1 rfl fr fun a fr => ?_
        refine wpList_nil ?_
        refine then_n ?_
        refine wp_ret ?_
        injection h with h
        subst h
        refine ret1 fr rfl rfl ?_
        exact ⟨rfl, fr.vok (d := 4) rfl, S.mask []⟩
  exact (key w rfl (Sat.start w)).mono fun e w' ⟨h1, h2, h3⟩ => ⟨h1, h2, S.new h3.below⟩
set_option maxRecDepth 100000 in
set_option maxHeartbeats 4000000 in
theorem Order.walk (k : Nat) (A0 : Option Addr) (c0 : Nat) (l0 : List Int) (A1 : Option Addr) (c1 : Nat) (l1 : List Int) {w0 w : World} {R : List Asn} (rk0 : Rk .u32 w A0 l0) (m0 : l0.length ≤ c0 ∧ c0 ≤ maxLen) (rk1 : Rk .u32 w A1 l1) (m1 : l1.length ≤ c1 ∧ c1 ≤ maxLen) (S : Sat w0 w R) {r : List Int × Bool} (h : Order.f k l0 l1 = some r) :
    Calls Tryz.prog 51 #[(.slice A0 (List.length l0) c0), (.slice A1 (List.length l1) c1)] w fun e w' => ∃ A800 : Option Addr, ∃ c800 : Nat, e = .returned (.tuple #[(.slice A800 (List.length r.1) c800), (.bool r.2)]) ∧ vok (.tuple #[(.slice A800 (List.length r.1) c800), (.bool r.2)]) = true ∧ Sat w0 w' (ownA .u32 86 A800 c800 r.1 :: R) := by
  have key : ∀ w0 : World, w0 = w → Sat w0 w [] → Calls Tryz.prog 51 #[(.slice A0 (List.length l0) c0), (.slice A1 (List.length l1) c1)] w fun e w' => ∃ A800 : Option Addr, ∃ c800 : Nat, e = .returned (.tuple #[(.slice A800 (List.length r.1) c800), (.bool r.2)]) ∧ vok (.tuple #[(.slice A800 (List.length r.1) c800), (.bool r.2)]) = true ∧ Sat w0 w' [ownA .u32 86 A800 c800 r.1] := by
    clear S
    intro w0 hw S
    rw [← hw] at rk0
    rw [← hw] at rk1
    clear hw
    unfold Order.f at h
    refine calls_start (N := 127) [(.slice A0 (List.length l0) c0), (.slice A1 (List.length l1) c1)] Tryz.func51 rfl rfl rfl (vok_c (vok_sl m0) (vok_c (vok_sl m1) rfl)) fun a fr => ?_
    refine wp_seq ?_
    refine wp_region_lit ?_
    refine wl_run orc_ok 2 rfl fr fun a fr => ?_
    refine wpList_nil ?_
    refine then_n ?_
    refine wp_seq ?_
    refine wp_seq ?_
    refine wp_region_lit ?_
    refine wl_run orc_ok 5 rfl fr fun a fr => ?_
    refine wpList_nil ?_
    refine then_n ?_
    refine cw_if fr rfl h (fun h => ?_) (fun h => ?_)
    · refine wp_seq ?_
      refine wp_region_lit ?_
      refine wl_run orc_ok 2 rfl fr fun a fr => ?_
      refine wpList_nil ?_
      refine then_n ?_
      refine wp_ret ?_
      refine then_r ?_
      have S : Sat w0 _ [ownA .u32 86 none 0 ([] : List Int)] := S.nilRow .u32 86
      injection h with h
      subst h
      refine ret2 fr rfl rfl rfl ?_
      exact ⟨none, 0, rfl, (by show List.all _ vokC = true; simp only [List.all_cons, List.all_nil, Bool.and_true, Bool.and_eq_true]; exact ⟨fr.vok (d := 4) rfl, fr.vok (d := 5) rfl⟩), S.mask [true]⟩
    · refine wp_skip ?_
      refine then_n ?_
      refine wp_seq ?_
      refine wp_region_lit ?_
      refine wl_run orc_ok 1 rfl fr fun a fr => ?_
      refine wpList_nil ?_
      refine then_n ?_
      refine wp_seq ?_
      refine wp_seq ?_
      refine wp_region_lit ?_
      refine wl_run orc_ok 1 rfl fr fun a fr => ?_
      refine wpList_nil ?_
      refine then_n ?_
      refine wp_block ?_
      have S : Sat w0 _ [ownA .u32 86 none 0 ([] : List Int)] := S.nilRow .u32 86
      refine cw_loop (fun k1 a w => ∃ A2 : Option Addr, ∃ c3 : Nat, ∃ l4 : List Int, ∃ x5 : Int, Fr 127 a [(0, (.slice A0 (List.length l0) c0)), (1, (.slice A1 (List.length l1) c1)), (6, (.slice A2 (List.length l4) c3)), (7, (.int .i64 x5))] ∧ Sat w0 w [ownA .u32 86 A2 c3 l4] ∧ (Order.l1 k1 l0 l1 l4 x5) = some r) k ⟨none, 0, ([] : List Int), (0 : Int), fr.sub ⟨rfl, rfl, rfl, rfl, trivial⟩, S, h⟩ ?_ ?_
      · rintro a w ⟨A2, c3, l4, x5, -, -, h⟩
        simp only [Order.l1] at h
        cases h
      · rintro k1 a w ⟨A2, c3, l4, x5, fr, S, h⟩
        rw [Order.l1] at h
        refine wp_seq ?_
        refine wp_seq ?_
        refine wp_region_lit ?_
        refine wl_run orc_ok 4 rfl fr fun a fr => ?_
        refine wpList_nil ?_
        refine then_n ?_
        refine cw_if fr rfl h (fun h => ?_) (fun h => ?_)
        · refine wp_skip ?_
          refine then_n ?_
          refine cw_cut (fun a w => ∃ A10 : Option Addr, ∃ c11 : Nat, ∃ l12 : List Int, Fr 127 a [(0, (.slice A0 (List.length l0) c0)), (1, (.slice A1 (List.length l1) c1)), (6, (.slice A10 (List.length l12) c11)), (7, (.int .i64 x5))] ∧ Sat w0 w [ownA .u32 86 A10 c11 l12] ∧ (Order.j1 (Order.l1 k1 l0 l1) x5 l12) = some r) ?_ ?_
          · refine wp_block ?_
            refine cw_cut (fun a w => ∃ kj2 : Nat, ∃ A13 : Option Addr, ∃ c14 : Nat, ∃ l15 : List Int, Fr 127 a [(0, (.slice A0 (List.length l0) c0)), (1, (.slice A1 (List.length l1) c1)), (6, (.slice A13 (List.length l15) c14)), (7, (.int .i64 x5))] ∧ Sat w0 w [ownA .u32 86 A13 c14 l15] ∧ (Order.j2 kj2 (Order.l1 k1 l0 l1) x5 l1 l15) = some r) ?_ ?_
            · refine wp_seq ?_
              refine wp_region_lit ?_
              refine wl_run orc_ok 3 rfl fr fun a fr => ?_
              obtain ⟨hc, h⟩ := ifs h
              refine wl_ld orc_ok (Rk.at rk0 S) fr rfl rfl rfl rfl rfl rfl rfl rfl rfl rfl rfl rfl rfl rfl rfl rfl hc fun a fr => ?_
              obtain ⟨r21, hr, h⟩ := bnd h
              refine wl_call fr rfl rfl rfl rfl en139 (in.walk k1 A2 c3 l4 (List.getD l0 (Int.toNat x5) 0) (Sat.ownAt S 0 rfl) (fr.slice (d := 25) rfl) (fr.int (d := 29) rfl) S hr) ?_
              rintro _ w ⟨rfl, hv, S⟩
              refine ⟨_, rfl, hv, fun a fr => ?_⟩
              refine wl_run orc_ok 1 rfl fr fun a fr => ?_
              refine wpList_nil ?_
              refine then_n ?_
              refine cw_if fr rfl h (fun h => ?_) (fun h => ?_)
              · refine wp_region_lit ?_
                refine wl_run orc_ok 3 rfl fr fun a fr => ?_
                obtain ⟨hc, h⟩ := ifs h
                refine wl_ld orc_ok (Rk.at rk0 S) fr rfl rfl rfl rfl rfl rfl rfl rfl rfl rfl rfl rfl rfl rfl rfl rfl hc fun a fr => ?_
                refine wl_lit (xs := [(List.getD l0 (Int.toNat x5) 0)]) orc_ok lit91 fr rfl rfl rfl rfl ⟨rfl, rfl, trivial⟩ rfl rfl S ?_
                intro w A22 c23 S
                intro a fr
                obtain ⟨hc, h⟩ := ifs h
                have S : Sat w0 _ [ownA .u32 86 A2 c3 l4, ownA .u32 86 A22 c23 [(List.getD l0 (Int.toNat x5) 0)]] := S.frontAt 1 rfl
                have hy := (Sat.ownAt S 1 rfl)
                refine wl_app lit91 fr rfl rfl rfl rfl rfl rfl rfl rfl hy hc S ?_
                intro w A24 c25 S
                have S : Sat w0 _ [ownA .u32 86 A24 c25 (l4 ++ [(List.getD l0 (Int.toNat x5) 0)])] := S.mask [true, false]
                intro a fr
                refine wl_run orc_ok 1 rfl fr fun a fr => ?_
                refine wpList_nil ?_
                exact ⟨k1, A24, c25, (l4 ++ [(List.getD l0 (Int.toNat x5) 0)]), fr.sub ⟨rfl, rfl, rfl, rfl, trivial⟩, S, h⟩
              · refine wp_skip ?_
                exact ⟨k1, A2, c3, l4, fr.sub ⟨rfl, rfl, rfl, rfl, trivial⟩, S, h⟩
            · rintro a w ⟨kj2, A13, c14, l15, fr, S, h⟩
              rw [Order.j2] at h
              refine wp_seq ?_
              refine wp_region_lit ?_
              refine wl_run orc_ok 3 rfl fr fun a fr => ?_
              obtain ⟨hc, h⟩ := ifs h
              refine wl_ld orc_ok (Rk.at rk1 S) fr rfl rfl rfl rfl rfl rfl rfl rfl rfl rfl rfl rfl rfl rfl rfl rfl hc fun a fr => ?_
              obtain ⟨r16, hr, h⟩ := bnd h
              refine wl_call fr rfl rfl rfl rfl en139 (in.walk kj2 A13 c14 l15 (List.getD l1 (Int.toNat x5) 0) (Sat.ownAt S 0 rfl) (fr.slice (d := 39) rfl) (fr.int (d := 43) rfl) S hr) ?_
              rintro _ w ⟨rfl, hv, S⟩
              refine ⟨_, rfl, hv, fun a fr => ?_⟩
              refine wl_run orc_ok 1 rfl fr fun a fr => ?_
              refine wpList_nil ?_
              refine then_n ?_
              refine cw_if fr rfl h (fun h => ?_) (fun h => ?_)
              · refine wp_region_lit ?_
                refine wl_run orc_ok 3 rfl fr fun a fr => ?_
                obtain ⟨hc, h⟩ := ifs h
                refine wl_ld orc_ok (Rk.at rk1 S) fr rfl rfl rfl rfl rfl rfl rfl rfl rfl rfl rfl rfl rfl rfl rfl rfl hc fun a fr => ?_
                refine wl_lit (xs := [(List.getD l1 (Int.toNat x5) 0)]) orc_ok lit91 fr rfl rfl rfl rfl ⟨rfl, rfl, trivial⟩ rfl rfl S ?_
                intro w A17 c18 S
                intro a fr
                obtain ⟨hc, h⟩ := ifs h
                have S : Sat w0 _ [ownA .u32 86 A13 c14 l15, ownA .u32 86 A17 c18 [(List.getD l1 (Int.toNat x5) 0)]] := S.frontAt 1 rfl
                have hy := (Sat.ownAt S 1 rfl)
                refine wl_app lit91 fr rfl rfl rfl rfl rfl rfl rfl rfl hy hc S ?_
                intro w A19 c20 S
                have S : Sat w0 _ [ownA .u32 86 A19 c20 (l15 ++ [(List.getD l1 (Int.toNat x5) 0)])] := S.mask [true, false]
                intro a fr
                refine wl_run orc_ok 1 rfl fr fun a fr => ?_
                refine wpList_nil ?_
                refine blk_n ?_
                exact ⟨A19, c20, (l15 ++ [(List.getD l1 (Int.toNat x5) 0)]), fr.sub ⟨rfl, rfl, rfl, rfl, trivial⟩, S, h⟩
              · refine wp_skip ?_
                refine blk_n ?_
                exact ⟨A13, c14, l15, fr.sub ⟨rfl, rfl, rfl, rfl, trivial⟩, S, h⟩
          · rintro a w ⟨A10, c11, l12, fr, S, h⟩
            rw [Order.j1] at h
            refine wp_region_lit ?_
            refine wl_run orc_ok 3 rfl fr fun a fr => ?_
            refine wpList_nil ?_
            exact ⟨A10, c11, l12, (IntKind.wrap .i64 (x5 + (1 : Int))), fr.sub ⟨rfl, rfl, rfl, rfl, trivial⟩, S, h⟩
        · refine wp_exit ?_
          refine then_e ?_
          refine then_e ?_
          refine blk_y ?_
          refine then_n ?_
          refine wp_seq ?_
          refine wp_region_lit ?_
          refine wl_run orc_ok 1 rfl fr fun a fr => ?_
          refine wpList_nil ?_
          refine then_n ?_
          refine wp_seq ?_
          refine wp_block ?_
          have S : Sat w0 _ [ownA .u32 86 none 0 ([] : List Int), ownA .u32 86 A2 c3 l4] := S.nilRow .u32 86
          refine cw_loop (fun k2 a w => ∃ A26 : Option Addr, ∃ c27 : Nat, ∃ l28 : List Int, ∃ A29 : Option Addr, ∃ c30 : Nat, ∃ l31 : List Int, Fr 127 a [(0, (.slice A0 (List.length l0) c0)), (1, (.slice A1 (List.length l1) c1)), (6, (.slice A29 (List.length l31) c30)), (8, (.slice A26 (List.length l28) c27))] ∧ Sat w0 w [ownA .u32 86 A26 c27 l28, ownA .u32 86 A29 c30 l31] ∧ (Order.l2 k2 l0 l1 l28 l31) = some r) k1 ⟨none, 0, ([] : List Int), A2, c3, l4, fr.sub ⟨rfl, rfl, rfl, rfl, trivial⟩, S, h⟩ ?_ ?_
          · rintro a w ⟨A26, c27, l28, A29, c30, l31, -, -, h⟩
            simp only [Order.l2] at h
            cases h
          · rintro k2 a w ⟨A26, c27, l28, A29, c30, l31, fr, S, h⟩
            rw [Order.l2] at h
            refine wp_seq ?_
            refine wp_seq ?_
            refine wp_region_lit ?_
            refine wl_run orc_ok 3 rfl fr fun a fr => ?_
            refine wpList_nil ?_
            refine then_n ?_
            refine cw_if fr rfl h (fun h => ?_) (fun h => ?_)
            · refine wp_skip ?_
              refine then_n ?_
              refine wp_block ?_
              refine wp_seq ?_
              refine wp_region_lit ?_
              refine wl_run orc_ok 1 rfl fr fun a fr => ?_
              refine wpList_nil ?_
              refine then_n ?_
              refine wp_seq ?_
              refine wp_seq ?_
              refine wp_region_lit ?_
              refine wl_run orc_ok 1 rfl fr fun a fr => ?_
              refine wpList_nil ?_
              refine then_n ?_
              refine wp_block ?_
              refine cw_loop (fun k3 a w => ∃ x38 : Int, ∃ x39 : Int, Fr 127 a [(0, (.slice A0 (List.length l0) c0)), (1, (.slice A1 (List.length l1) c1)), (6, (.slice A29 (List.length l31) c30)), (8, (.slice A26 (List.length l28) c27)), (9, (.int .i64 x38)), (10, (.int .i64 x39))] ∧ Sat w0 w [ownA .u32 86 A26 c27 l28, ownA .u32 86 A29 c30 l31] ∧ (Order.l3 k3 (Order.l2 k2 l0 l1) l31 l0 l1 l28 x38 x39) = some r) k2 ⟨(-1 : Int), (0 : Int), fr.sub ⟨rfl, rfl, rfl, rfl, rfl, rfl, trivial⟩, S, h⟩ ?_ ?_
              · rintro a w ⟨x38, x39, -, -, h⟩
                simp only [Order.l3] at h
                cases h
              · rintro k3 a w ⟨x38, x39, fr, S, h⟩
                rw [Order.l3] at h
                refine wp_seq ?_
                refine wp_seq ?_
                refine wp_region_lit ?_
                refine wl_run orc_ok 4 rfl fr fun a fr => ?_
                refine wpList_nil ?_
                refine then_n ?_
                refine cw_if fr rfl h (fun h => ?_) (fun h => ?_)
                · refine wp_skip ?_
                  refine then_n ?_
                  refine cw_cut (fun a w => ∃ x42 : Int, Fr 127 a [(0, (.slice A0 (List.length l0) c0)), (1, (.slice A1 (List.length l1) c1)), (6, (.slice A29 (List.length l31) c30)), (8, (.slice A26 (List.length l28) c27)), (9, (.int .i64 x42)), (10, (.int .i64 x39))] ∧ Sat w0 w [ownA .u32 86 A26 c27 l28, ownA .u32 86 A29 c30 l31] ∧ (Order.j3 (Order.l3 k3 (Order.l2 k2 l0 l1) l31 l0 l1 l28) x39 x42) = some r) ?_ ?_
                  · refine wp_block ?_
                    refine wp_seq ?_
                    refine wp_region_lit ?_
                    refine wl_run orc_ok 1 rfl fr fun a fr => ?_
                    refine wpList_nil ?_
                    refine then_n ?_
                    refine wp_seq ?_
                    refine wp_seq ?_
                    refine wp_region_lit ?_
                    refine wl_run orc_ok 1 rfl fr fun a fr => ?_
                    refine wpList_nil ?_
                    refine then_n ?_
                    refine wp_block ?_
                    refine cw_loop (fun k4 a w => ∃ b43 : Bool, ∃ x44 : Int, Fr 127 a [(0, (.slice A0 (List.length l0) c0)), (1, (.slice A1 (List.length l1) c1)), (6, (.slice A29 (List.length l31) c30)), (8, (.slice A26 (List.length l28) c27)), (9, (.int .i64 x38)), (10, (.int .i64 x39)), (11, (.bool b43)), (12, (.int .i64 x44))] ∧ Sat w0 w [ownA .u32 86 A26 c27 l28, ownA .u32 86 A29 c30 l31] ∧ (Order.l4 k4 (Order.l3 k3 (Order.l2 k2 l0 l1) l31 l0 l1 l28) l0 x39 l31 l1 x38 b43 x44) = some r) k3 ⟨true, (0 : Int), fr.sub ⟨rfl, rfl, rfl, rfl, rfl, rfl, rfl, rfl, trivial⟩, S, h⟩ ?_ ?_
                    · rintro a w ⟨b43, x44, -, -, h⟩
                      simp only [Order.l4] at h
                      cases h
                    · rintro k4 a w ⟨b43, x44, fr, S, h⟩
                      rw [Order.l4] at h
                      refine wp_seq ?_
                      refine wp_seq ?_
                      refine wp_region_lit ?_
                      refine wl_run orc_ok 4 rfl fr fun a fr => ?_
                      refine wpList_nil ?_
                      refine then_n ?_
                      refine cw_if fr rfl h (fun h => ?_) (fun h => ?_)
                      · refine wp_skip ?_
                        refine then_n ?_
                        refine cw_cut (fun a w => ∃ b47 : Bool, Fr 127 a [(0, (.slice A0 (List.length l0) c0)), (1, (.slice A1 (List.length l1) c1)), (6, (.slice A29 (List.length l31) c30)), (8, (.slice A26 (List.length l28) c27)), (9, (.int .i64 x38)), (10, (.int .i64 x39)), (11, (.bool b47)), (12, (.int .i64 x44))] ∧ Sat w0 w [ownA .u32 86 A26 c27 l28, ownA .u32 86 A29 c30 l31] ∧ (Order.j4 (Order.l4 k4 (Order.l3 k3 (Order.l2 k2 l0 l1) l31 l0 l1 l28) l0 x39 l31 l1 x38) x44 b47) = some r) ?_ ?_
                        · refine wp_block ?_
                          refine wp_region_sl [.one (0, true, some 68), .one (1, true, some 69), .one (2, true, some 70), .one (3, true, some 71), .one (4, true, some 72), .one (5, true, some 73), .one (6, true, some 74), .one (7, true, some 75), .one (8, true, some 76), .one (9, true, some 77), .one (10, true, some 78), .one (11, true, some 79), .one (12, true, some 80), .one (13, true, some 81), .one (14, true, some 82), .one (15, true, some 83), .one (16, true, some 84), .one (17, false, some 85), .one (18, true, some 86), .one (19, true, some 87), .one (20, true, some 88), .one (21, true, some 11)]
                            [.one ⟨true, some 68, (Go.Op.move (Go.Operand.tmp 11)), 4, none⟩,
    .one ⟨true, some 69, (Go.Op.move (Go.Operand.tmp 68)), 4, none⟩,
    .one ⟨true, some 70, (Go.Op.move (Go.Operand.tmp 0)), 91, some (69, true)⟩,
    .one ⟨true, some 71, (Go.Op.move (Go.Operand.tmp 12)), 3, some (69, true)⟩,
    .one ⟨true, some 72, (Go.Op.indexAddr 91 (Go.Operand.tmp 70) (Go.Operand.tmp 71)), 0, some (69, true)⟩,
    .one ⟨true, some 73, (Go.Op.load 86 (Go.Operand.tmp 72)), 86, some (69, true)⟩,
    .one ⟨true, some 74, (Go.Op.move (Go.Operand.tmp 6)), 91, some (69, true)⟩,
    .one ⟨true, some 75, (Go.Op.move (Go.Operand.tmp 10)), 3, some (69, true)⟩,
    .one ⟨true, some 76, (Go.Op.indexAddr 91 (Go.Operand.tmp 74) (Go.Operand.tmp 75)), 0, some (69, true)⟩,
    .one ⟨true, some 77, (Go.Op.load 86 (Go.Operand.tmp 76)), 86, some (69, true)⟩,
    .one ⟨true, some 78, (Go.Op.binOp Go.BinOp.neq 86 (Go.Operand.tmp 73) (Go.Operand.tmp 77) 86), 4, some (69, true)⟩,
    .one ⟨true, some 79, (Go.Op.move (Go.Operand.tmp 78)), 4, some (69, true)⟩,
    .one ⟨true, some 80, (Go.Op.move (Go.Operand.tmp 6)), 91, some (79, false)⟩,
    .one ⟨true, some 81, (Go.Op.move (Go.Operand.tmp 1)), 91, some (79, false)⟩,
    .one ⟨true, some 82, (Go.Op.move (Go.Operand.tmp 12)), 3, some (79, false)⟩,
    .one ⟨true, some 83, (Go.Op.indexAddr 91 (Go.Operand.tmp 81) (Go.Operand.tmp 82)), 0, some (79, false)⟩,
    .one ⟨true, some 84, (Go.Op.load 86 (Go.Operand.tmp 83)), 86, some (79, false)⟩,
    .one ⟨false, some 85, (Go.Op.call { callee := (Go.Callee.value (Go.Operand.func 139)), args := #[(Go.Operand.tmp 80), (Go.Operand.tmp 84)], argTypes := #[91, 86] }), 4, some (79, false)⟩,
    .one ⟨true, some 86, (Go.Op.unOp Go.UnOp.not 4 (Go.Operand.tmp 85)), 4, some (79, false)⟩,
    .one ⟨true, some 87, (Go.Op.pick (Go.Operand.tmp 79) (Go.Operand.const (Go.Value.bool true)) (Go.Operand.tmp 86)), 4, some (69, true)⟩,
    .one ⟨true, some 88, (Go.Op.pick (Go.Operand.tmp 69) (Go.Operand.tmp 87) (Go.Operand.const (Go.Value.bool false))), 4, none⟩,
    .one ⟨true, some 11, (Go.Op.assign (Go.Operand.tmp 88)), 4, none⟩]
                            (fun w => Sat w0 w [ownA .u32 86 A26 c27 l28, ownA .u32 86 A29 c30 l31]) rfl (by kernel_rfl) (by kernel_rfl) (S.drew.mask [true, true]) ?_
                          have S := S.drew
                          refine sl_run orc_ok 2 rfl fr fun a fr => ?_
                          refine sl_split 69 fr rfl h (fun fr h => ?_) (fun fr h => ?_)
                          · refine sl_run orc_ok 2 rfl fr fun a fr => ?_
                            obtain ⟨hc, h⟩ := ifs h
                            refine sl_ld orc_ok (fun _ S => Rk.at rk0 S) fr rfl rfl rfl rfl rfl rfl rfl rfl rfl rfl rfl rfl rfl rfl rfl rfl rfl rfl hc (Sat.mask S [true, true]) fun a fr => ?_
                            refine sl_run orc_ok 2 rfl fr fun a fr => ?_
                            obtain ⟨hc, h⟩ := ifs h
                            refine sl_ld orc_ok (fun _ S => Sat.ownAt S 1 rfl) fr rfl rfl rfl rfl rfl rfl rfl rfl rfl rfl rfl rfl rfl rfl rfl rfl rfl rfl hc (Sat.mask S [true, true]) fun a fr => ?_
                            refine sl_run orc_ok 2 rfl fr fun a fr => ?_
                            refine sl_split 79 fr rfl h (fun fr h => ?_) (fun fr h => ?_)
                            · refine sl_run orc_ok 5 rfl fr fun a fr => ?_
                              refine sl_no fr rfl (Sat.mask S [true, true]) rfl rfl fun a fr => ?_
                              refine sl_run orc_ok 4 rfl fr fun a fr => ?_
                              refine sl_end ?_
                              refine blk_n ?_
                              exact ⟨true, fr.sub ⟨rfl, rfl, rfl, rfl, rfl, rfl, rfl, rfl, trivial⟩, S, h⟩
                            · refine sl_run orc_ok 3 rfl fr fun a fr => ?_
                              obtain ⟨hc, h⟩ := ifs h
                              refine sl_ld orc_ok (fun _ S => Rk.at rk1 S) fr rfl rfl rfl rfl rfl rfl rfl rfl rfl rfl rfl rfl rfl rfl rfl rfl rfl rfl hc (Sat.mask S [true, true]) fun a fr => ?_
                              obtain ⟨r48, hr, h⟩ := bnd h
                              refine sl_call fr rfl rfl rfl rfl rfl en139 (in.walk k4 A29 c30 l31 (List.getD l1 (Int.toNat x44) 0) (Sat.ownAt S 1 rfl) (fr.slice (d := 80) rfl) (fr.int (d := 84) rfl) S hr) ?_
                              rintro _ w ⟨rfl, hv, S⟩
                              refine ⟨_, rfl, hv, (Sat.mask S [true, true]), fun a fr => ?_⟩
                              refine sl_run orc_ok 4 rfl fr fun a fr => ?_
                              refine sl_end ?_
                              refine blk_n ?_
                              exact ⟨(!r48), fr.sub ⟨rfl, rfl, rfl, rfl, rfl, rfl, rfl, rfl, trivial⟩, S, h⟩
                          · refine sl_run orc_ok 15 rfl fr fun a fr => ?_
                            refine sl_no fr rfl (Sat.mask S [true, true]) rfl rfl fun a fr => ?_
                            refine sl_run orc_ok 4 rfl fr fun a fr => ?_
                            refine sl_end ?_
                            refine blk_n ?_
                            exact ⟨false, fr.sub ⟨rfl, rfl, rfl, rfl, rfl, rfl, rfl, rfl, trivial⟩, S, h⟩
                        · rintro a w ⟨b47, fr, S, h⟩
                          rw [Order.j4] at h
                          refine wp_region_lit ?_
                          refine wl_run orc_ok 3 rfl fr fun a fr => ?_
                          refine wpList_nil ?_
                          exact ⟨b47, (IntKind.wrap .i64 (x44 + (1 : Int))), fr.sub ⟨rfl, rfl, rfl, rfl, rfl, rfl, rfl, rfl, trivial⟩, S, h⟩
                      · refine wp_exit ?_
                        refine then_e ?_
                        refine then_e ?_
                        refine blk_y ?_
                        refine then_n ?_
                        refine wp_seq ?_
                        refine wp_region_sl [.one (0, true, some 89), .one (1, true, some 90), .one (2, true, some 91), .one (3, true, some 92), .one (4, true, some 93), .one (5, true, some 94), .one (6, true, some 95), .one (7, true, some 96), .one (8, true, some 97), .one (9, true, some 98), .one (10, true, some 99), .one (11, true, some 100), .one (12, true, some 101), .one (13, true, some 102), .one (14, true, some 103), .one (15, true, some 104)]
                          [.one ⟨true, some 89, (Go.Op.move (Go.Operand.tmp 11)), 4, none⟩,
    .one ⟨true, some 90, (Go.Op.move (Go.Operand.tmp 89)), 4, none⟩,
    .one ⟨true, some 91, (Go.Op.move (Go.Operand.tmp 9)), 3, some (90, true)⟩,
    .one ⟨true, some 92, (Go.Op.binOp Go.BinOp.lss 3 (Go.Operand.tmp 91) (Go.Operand.const (Go.Value.int Go.IntKind.i64 0)) 3), 4, some (90, true)⟩,
    .one ⟨true, some 93, (Go.Op.move (Go.Operand.tmp 92)), 4, some (90, true)⟩,
    .one ⟨true, some 94, (Go.Op.move (Go.Operand.tmp 6)), 91, some (93, false)⟩,
    .one ⟨true, some 95, (Go.Op.move (Go.Operand.tmp 10)), 3, some (93, false)⟩,
    .one ⟨true, some 96, (Go.Op.indexAddr 91 (Go.Operand.tmp 94) (Go.Operand.tmp 95)), 0, some (93, false)⟩,
    .one ⟨true, some 97, (Go.Op.load 86 (Go.Operand.tmp 96)), 86, some (93, false)⟩,
    .one ⟨true, some 98, (Go.Op.move (Go.Operand.tmp 6)), 91, some (93, false)⟩,
    .one ⟨true, some 99, (Go.Op.move (Go.Operand.tmp 9)), 3, some (93, false)⟩,
    .one ⟨true, some 100, (Go.Op.indexAddr 91 (Go.Operand.tmp 98) (Go.Operand.tmp 99)), 0, some (93, false)⟩,
    .one ⟨true, some 101, (Go.Op.load 86 (Go.Operand.tmp 100)), 86, some (93, false)⟩,
    .one ⟨true, some 102, (Go.Op.binOp Go.BinOp.lss 86 (Go.Operand.tmp 97) (Go.Operand.tmp 101) 86), 4, some (93, false)⟩,
    .one ⟨true, some 103, (Go.Op.pick (Go.Operand.tmp 93) (Go.Operand.const (Go.Value.bool true)) (Go.Operand.tmp 102)), 4, some (90, true)⟩,
    .one ⟨true, some 104, (Go.Op.pick (Go.Operand.tmp 90) (Go.Operand.tmp 103) (Go.Operand.const (Go.Value.bool false))), 4, none⟩]
                          (fun w => Sat w0 w [ownA .u32 86 A26 c27 l28, ownA .u32 86 A29 c30 l31]) rfl (by kernel_rfl) (by kernel_rfl) (S.drew.mask [true, true]) ?_
                        have S := S.drew
                        refine sl_run orc_ok 2 rfl fr fun a fr => ?_
                        refine sl_split 90 fr rfl h (fun fr h => ?_) (fun fr h => ?_)
                        · refine sl_run orc_ok 3 rfl fr fun a fr => ?_
                          refine sl_split 93 fr rfl h (fun fr h => ?_) (fun fr h => ?_)
                          · refine sl_run orc_ok 11 rfl fr fun a fr => ?_
                            refine sl_end ?_
                            refine then_n ?_
                            refine cw_t fr rfl ?_
                            refine wp_region_lit ?_
                            refine wl_run orc_ok 2 rfl fr fun a fr => ?_
                            refine wpList_nil ?_
                            refine blk_n ?_
                            exact ⟨x39, fr.sub ⟨rfl, rfl, rfl, rfl, rfl, rfl, trivial⟩, S, h⟩
                          · refine sl_run orc_ok 2 rfl fr fun a fr => ?_
                            obtain ⟨hc, h⟩ := ifs h
                            refine sl_ld orc_ok (fun _ S => Sat.ownAt S 1 rfl) fr rfl rfl rfl rfl rfl rfl rfl rfl rfl rfl rfl rfl rfl rfl rfl rfl rfl rfl hc (Sat.mask S [true, true]) fun a fr => ?_
                            refine sl_run orc_ok 2 rfl fr fun a fr => ?_
                            obtain ⟨hc, h⟩ := ifs h
                            refine sl_ld orc_ok (fun _ S => Sat.ownAt S 1 rfl) fr rfl rfl rfl rfl rfl rfl rfl rfl rfl rfl rfl rfl rfl rfl rfl rfl rfl rfl hc (Sat.mask S [true, true]) fun a fr => ?_
                            refine sl_run orc_ok 3 rfl fr fun a fr => ?_
                            refine sl_end ?_
                            refine then_n ?_
                            refine cw_if fr rfl h (fun h => ?_) (fun h => ?_)
                            · refine wp_region_lit ?_
                              refine wl_run orc_ok 2 rfl fr fun a fr => ?_
                              refine wpList_nil ?_
                              refine blk_n ?_
                              exact ⟨x39, fr.sub ⟨rfl, rfl, rfl, rfl, rfl, rfl, trivial⟩, S, h⟩
                            · refine wp_skip ?_
                              refine blk_n ?_
                              exact ⟨x38, fr.sub ⟨rfl, rfl, rfl, rfl, rfl, rfl, trivial⟩, S, h⟩
                        · refine sl_run orc_ok 14 rfl fr fun a fr => ?_
                          refine sl_end ?_
                          refine then_n ?_
                          refine cw_f fr rfl ?_
                          refine wp_skip ?_
                          refine blk_n ?_
                          exact ⟨x38, fr.sub ⟨rfl, rfl, rfl, rfl, rfl, rfl, trivial⟩, S, h⟩
                  · rintro a w ⟨x42, fr, S, h⟩
                    rw [Order.j3] at h
                    refine wp_region_lit ?_
                    refine wl_run orc_ok 3 rfl fr fun a fr => ?_
                    refine wpList_nil ?_
                    exact ⟨x42, (IntKind.wrap .i64 (x39 + (1 : Int))), fr.sub ⟨rfl, rfl, rfl, rfl, rfl, rfl, trivial⟩, S, h⟩
                · refine wp_exit ?_
                  refine then_e ?_
                  refine then_e ?_
                  refine blk_y ?_
                  refine then_n ?_
                  refine wp_seq ?_
                  refine wp_seq ?_
                  refine wp_region_lit ?_
                  refine wl_run orc_ok 2 rfl fr fun a fr => ?_
                  refine wpList_nil ?_
                  refine then_n ?_
                  refine cw_if fr rfl h (fun h => ?_) (fun h => ?_)
                  · refine wp_seq ?_
                    refine wp_region_lit ?_
                    refine wl_run orc_ok 2 rfl fr fun a fr => ?_
                    refine wpList_nil ?_
                    refine then_n ?_
                    refine wp_ret ?_
                    refine then_r ?_
                    refine blk_r ?_
                    refine then_r ?_
                    refine blk_r ?_
                    refine then_r ?_
                    have S : Sat w0 _ [ownA .u32 86 none 0 ([] : List Int), ownA .u32 86 A26 c27 l28, ownA .u32 86 A29 c30 l31] := S.nilRow .u32 86
                    injection h with h
                    subst h
                    refine ret2 fr rfl rfl rfl ?_
                    exact ⟨none, 0, rfl, (by show List.all _ vokC = true; simp only [List.all_cons, List.all_nil, Bool.and_true, Bool.and_eq_true]; exact ⟨fr.vok (d := 4) rfl, fr.vok (d := 5) rfl⟩), S.mask [true, false, false]⟩
                  · refine wp_skip ?_
                    refine then_n ?_
                    refine wp_seq ?_
                    refine wp_region_lit ?_
                    refine wl_run orc_ok 3 rfl fr fun a fr => ?_
                    obtain ⟨hc, h⟩ := ifs h
                    refine wl_ld orc_ok (Sat.ownAt S 1 rfl) fr rfl rfl rfl rfl rfl rfl rfl rfl rfl rfl rfl rfl rfl rfl rfl rfl hc fun a fr => ?_
                    refine wl_lit (xs := [(List.getD l31 (Int.toNat x38) 0)]) orc_ok lit91 fr rfl rfl rfl rfl ⟨rfl, rfl, trivial⟩ rfl rfl S ?_
                    intro w A49 c50 S
                    intro a fr
                    obtain ⟨hc, h⟩ := ifs h
                    have S : Sat w0 _ [ownA .u32 86 A26 c27 l28, ownA .u32 86 A49 c50 [(List.getD l31 (Int.toNat x38) 0)], ownA .u32 86 A29 c30 l31] := S.frontAt 1 rfl
                    have hy := (Sat.ownAt S 1 rfl)
                    refine wl_app lit91 fr rfl rfl rfl rfl rfl rfl rfl rfl hy hc S ?_
                    intro w A51 c52 S
                    have S : Sat w0 _ [ownA .u32 86 A51 c52 (l28 ++ [(List.getD l31 (Int.toNat x38) 0)]), ownA .u32 86 A29 c30 l31] := S.mask [true, false, true]
                    intro a fr
                    refine wl_run orc_ok 1 rfl fr fun a fr => ?_
                    refine wpList_nil ?_
                    refine then_n ?_
                    refine wp_seq ?_
                    refine wp_region_lit ?_
                    refine wl_run orc_ok 1 rfl fr fun a fr => ?_
                    refine wpList_nil ?_
                    refine then_n ?_
                    refine wp_seq ?_
                    refine wp_region_lit ?_
                    refine wl_run orc_ok 3 rfl fr fun a fr => ?_
                    obtain ⟨hc, h⟩ := ifs h
                    refine wl_take orc_ok (l := l31) fr rfl rfl rfl rfl rfl rfl rfl rfl rfl hc fun a fr => ?_
                    obtain ⟨hc, h⟩ := ifs h
                    have S : Sat w0 _ [ownA .u32 86 none 0 ([] : List Int), ownA .u32 86 A51 c52 (l28 ++ [(List.getD l31 (Int.toNat x38) 0)]), ownA .u32 86 A29 c30 l31] := S.nilRow .u32 86
                    have hy := ((Rk.take (Sat.ownAt S 2 rfl) (Int.toNat x38)))
                    refine wl_app lit91 fr rfl rfl rfl rfl rfl rfl rfl rfl hy hc S ?_
                    intro w A54 c55 S
                    intro a fr
                    refine wl_run orc_ok 1 rfl fr fun a fr => ?_
                    refine wpList_nil ?_
                    refine then_n ?_
                    refine wp_region_lit ?_
                    refine wl_run orc_ok 4 rfl fr fun a fr => ?_
                    obtain ⟨hc, h⟩ := ifs h
                    have hm56 : (l31).length ≤ c30 := (fr.slice (d := 121) rfl).1
                    refine wl_drop orc_ok (l := l31) fr rfl rfl rfl rfl rfl rfl rfl info86 rfl hc fun a fr => ?_
                    obtain ⟨hc, h⟩ := ifs h
                    have hy := ((Rk.drop (n := Int.toNat (IntKind.wrap .i64 (x38 + (1 : Int)))) (Sat.ownAt S 2 rfl) hm56))
                    refine wl_app lit91 fr rfl rfl rfl rfl rfl rfl rfl rfl hy hc S ?_
                    intro w A57 c58 S
                    intro a fr
                    have S : Sat w0 _ [ownA .u32 86 A57 c58 ((([] : List Int) ++ (List.take (Int.toNat x38) l31)) ++ (List.drop (Int.toNat (IntKind.wrap .i64 (x38 + (1 : Int)))) l31)), ownA .u32 86 A51 c52 (l28 ++ [(List.getD l31 (Int.toNat x38) 0)])] := S.mask [true, true, false]
                    refine wl_run orc_ok 1 rfl fr fun a fr => ?_
                    refine wpList_nil ?_
                    refine blk_n ?_
                    have S : Sat w0 _ [ownA .u32 86 A51 c52 (l28 ++ [(List.getD l31 (Int.toNat x38) 0)]), ownA .u32 86 A57 c58 ((([] : List Int) ++ (List.take (Int.toNat x38) l31)) ++ (List.drop (Int.toNat (IntKind.wrap .i64 (x38 + (1 : Int)))) l31))] := S.frontAt 1 rfl
                    exact ⟨A51, c52, (l28 ++ [(List.getD l31 (Int.toNat x38) 0)]), A57, c58, ((([] : List Int) ++ (List.take (Int.toNat x38) l31)) ++ (List.drop (Int.toNat (IntKind.wrap .i64 (x38 + (1 : Int)))) l31)), fr.sub ⟨rfl, rfl, rfl, rfl, trivial⟩, S, h⟩
            · refine wp_exit ?_
              refine then_e ?_
              refine then_e ?_
              refine blk_y ?_
              refine then_n ?_
              refine wp_seq ?_
              refine wp_region_lit ?_
              refine wl_run orc_ok 3 rfl fr fun a fr => ?_
              refine wpList_nil ?_
              refine then_n ?_
              refine wp_ret ?_
              injection h with h
              subst h
              refine ret2 fr rfl rfl rfl ?_
              exact ⟨A26, c27, rfl, (by show List.all _ vokC = true; simp only [List.all_cons, List.all_nil, Bool.and_true, Bool.and_eq_true]; exact ⟨fr.vok (d := 4) rfl, fr.vok (d := 5) rfl⟩), S.mask [true, false]⟩
  exact (key w rfl (Sat.start w)).mono fun e w' ⟨A800, c800, h1, h2, h3⟩ => ⟨A800, c800, h1, h2, S.join h3 (fun A hA F => by simp only [List.mem_cons, List.not_mem_nil, or_false] at hA; subst hA; exact own_lower S.below.size F)⟩
set_option maxRecDepth 100000 in
set_option maxHeartbeats 4000000 in
theorem SameIds.walk (k : Nat) (A0 : Option Addr) (c0 : Nat) (l0 : List Int) (A1 : Option Addr) (c1 : Nat) (l1 : List Int) {w0 w : World} {R : List Asn} (rk0 : Rk .u32 w A0 l0) (m0 : l0.length ≤ c0 ∧ c0 ≤ maxLen) (rk1 : Rk .u32 w A1 l1) (m1 : l1.length ≤ c1 ∧ c1 ≤ maxLen) (S : Sat w0 w R) {r : Bool} (h : SameIds.f k l0 l1 = some r) :
    Calls Tryz.prog 44 #[(.slice A0 (List.length l0) c0), (.slice A1 (List.length l1) c1)] w fun e w' => e = .returned (.bool r) ∧ vok (.bool r) = true ∧ Sat w0 w' R := by
  have key : ∀ w0 : World, w0 = w → Sat w0 w [] → Calls Tryz.prog 44 #[(.slice A0 (List.length l0) c0), (.slice A1 (List.length l1) c1)] w fun e w' => e = .returned (.bool r) ∧ vok (.bool r) = true ∧ Sat w0 w' [] := by
    clear S
    intro w0 hw S
    rw [← hw] at rk0
    rw [← hw] at rk1
    clear hw
    unfold SameIds.f at h
    refine calls_start (N := 26) [(.slice A0 (List.length l0) c0), (.slice A1 (List.length l1) c1)] Tryz.func44 rfl rfl rfl (vok_c (vok_sl m0) (vok_c (vok_sl m1) rfl)) fun a fr => ?_
    refine wp_seq ?_
    refine wp_region_lit ?_
    refine wl_run orc_ok 1 rfl fr fun a fr => ?_
    refine wpList_nil ?_
    refine then_n ?_
    refine wp_seq ?_
    refine wp_seq ?_
    refine wp_region_lit ?_
    refine wl_run orc_ok 5 rfl fr fun a fr => ?_
    refine wpList_nil ?_
    refine then_n ?_
    refine cw_if fr rfl h (fun h => ?_) (fun h => ?_)
    · refine wp_seq ?_
      refine wp_region_lit ?_
      refine wl_run orc_ok 1 rfl fr fun a fr => ?_
      refine wpList_nil ?_
      refine then_n ?_
      refine wp_ret ?_
      refine then_r ?_
      injection h with h
      subst h
      refine ret1 fr rfl rfl ?_
      exact ⟨rfl, fr.vok (d := 4) rfl, S.mask []⟩
    · refine wp_skip ?_
      refine then_n ?_
      refine wp_seq ?_
      refine wp_seq ?_
      refine wp_region_lit ?_
      refine wl_run orc_ok 1 rfl fr fun a fr => ?_
      refine wpList_nil ?_
      refine then_n ?_
      refine wp_block ?_
      refine cw_loop (fun k1 a w => ∃ x1 : Int, Fr 26 a [(0, (.slice A0 (List.length l0) c0)), (1, (.slice A1 (List.length l1) c1)), (5, (.int .i64 x1))] ∧ Sat w0 w [] ∧ (SameIds.l1 k1 l0 l1 x1) = some r) k ⟨(0 : Int), fr.sub ⟨rfl, rfl, rfl, trivial⟩, S, h⟩ ?_ ?_
      · rintro a w ⟨x1, -, -, h⟩
        simp only [SameIds.l1] at h
        cases h
      · rintro k1 a w ⟨x1, fr, S, h⟩
        rw [SameIds.l1] at h
        refine wp_seq ?_
        refine wp_seq ?_
        refine wp_region_lit ?_
        refine wl_run orc_ok 4 rfl fr fun a fr => ?_
        refine wpList_nil ?_
        refine then_n ?_
        refine cw_if fr rfl h (fun h => ?_) (fun h => ?_)
        · refine wp_skip ?_
          refine then_n ?_
          refine wp_seq ?_
          refine wp_block ?_
          refine wp_seq ?_
          refine wp_region_sl [.one (0, true, some 17), .one (1, true, some 18), .one (2, true, some 19), .one (3, true, some 20), .one (4, true, some 21), .one (5, true, some 22), .one (6, true, some 23), .one (7, true, some 24), .one (8, true, some 25)]
            [.one ⟨true, some 17, (Go.Op.move (Go.Operand.tmp 0)), 91, none⟩,
    .one ⟨true, some 18, (Go.Op.move (Go.Operand.tmp 5)), 3, none⟩,
    .one ⟨true, some 19, (Go.Op.indexAddr 91 (Go.Operand.tmp 17) (Go.Operand.tmp 18)), 0, none⟩,
    .one ⟨true, some 20, (Go.Op.load 86 (Go.Operand.tmp 19)), 86, none⟩,
    .one ⟨true, some 21, (Go.Op.move (Go.Operand.tmp 1)), 91, none⟩,
    .one ⟨true, some 22, (Go.Op.move (Go.Operand.tmp 5)), 3, none⟩,
    .one ⟨true, some 23, (Go.Op.indexAddr 91 (Go.Operand.tmp 21) (Go.Operand.tmp 22)), 0, none⟩,
    .one ⟨true, some 24, (Go.Op.load 86 (Go.Operand.tmp 23)), 86, none⟩,
    .one ⟨true, some 25, (Go.Op.binOp Go.BinOp.neq 86 (Go.Operand.tmp 20) (Go.Operand.tmp 24) 86), 4, none⟩]
            (fun w => Sat w0 w []) rfl (by kernel_rfl) (by kernel_rfl) (S.drew.mask []) ?_
          have S := S.drew
          refine sl_run orc_ok 2 rfl fr fun a fr => ?_
          obtain ⟨hc, h⟩ := ifs h
          refine sl_ld orc_ok (fun _ S => Rk.at rk0 S) fr rfl rfl rfl rfl rfl rfl rfl rfl rfl rfl rfl rfl rfl rfl rfl rfl rfl rfl hc (Sat.mask S []) fun a fr => ?_
          refine sl_run orc_ok 2 rfl fr fun a fr => ?_
          obtain ⟨hc, h⟩ := ifs h
          refine sl_ld orc_ok (fun _ S => Rk.at rk1 S) fr rfl rfl rfl rfl rfl rfl rfl rfl rfl rfl rfl rfl rfl rfl rfl rfl rfl rfl hc (Sat.mask S []) fun a fr => ?_
          refine sl_run orc_ok 1 rfl fr fun a fr => ?_
          refine sl_end ?_
          refine then_n ?_
          refine cw_if fr rfl h (fun h => ?_) (fun h => ?_)
          · refine wp_seq ?_
            refine wp_region_lit ?_
            refine wl_run orc_ok 1 rfl fr fun a fr => ?_
            refine wpList_nil ?_
            refine then_n ?_
            refine wp_ret ?_
            refine blk_r ?_
            refine then_r ?_
            refine then_r ?_
            refine blk_r ?_
            refine then_r ?_
            injection h with h
            subst h
            refine ret1 fr rfl rfl ?_
            exact ⟨rfl, fr.vok (d := 4) rfl, S.mask []⟩
          · refine wp_skip ?_
            refine blk_n ?_
            refine then_n ?_
            refine wp_region_lit ?_
            refine wl_run orc_ok 3 rfl fr fun a fr => ?_
            refine wpList_nil ?_
            exact ⟨(IntKind.wrap .i64 (x1 + (1 : Int))), fr.sub ⟨rfl, rfl, rfl, trivial⟩, S, h⟩
        · refine wp_exit ?_
          refine then_e ?_
          refine then_e ?_
          refine blk_y ?_
          refine then_n ?_
          refine wp_seq ?_
          refine wp_region_lit ?_
          refine wl_run orc_ok 1 rfl fr fun a fr => ?_
          refine wpList_nil ?_
          refine then_n ?_
          refine wp_ret ?_
          injection h with h
          subst h
          refine ret1 fr rfl rfl ?_
          exact ⟨rfl, fr.vok (d := 4) rfl, S.mask []⟩
  exact (key w rfl (Sat.start w)).mono fun e w' ⟨h1, h2, h3⟩ => ⟨h1, h2, S.new h3.below⟩
set_option maxRecDepth 100000 in
set_option maxHeartbeats 4000000 in
theorem RingsOrder.walk (k : Nat) (A0 : Option Addr) (c0 : Nat) (l0 : List Int) (A1 : Option Addr) (c1 : Nat) (l1 : List Int) {w0 w : World} {R : List Asn} (rk0 : Rk .u32 w A0 l0) (m0 : l0.length ≤ c0 ∧ c0 ≤ maxLen) (rk1 : Rk .u32 w A1 l1) (m1 : l1.length ≤ c1 ∧ c1 ≤ maxLen) (S : Sat w0 w R) {r : Bool} (h : RingsOrder.f k l0 l1 = some r) :
    Calls Tryz.prog 6 #[(.slice A0 (List.length l0) c0), (.slice A1 (List.length l1) c1)] w fun e w' => e = .returned (.bool r) ∧ vok (.bool r) = true ∧ Sat w0 w' R := by
  have key : ∀ w0 : World, w0 = w → Sat w0 w [] → Calls Tryz.prog 6 #[(.slice A0 (List.length l0) c0), (.slice A1 (List.length l1) c1)] w fun e w' => e = .returned (.bool r) ∧ vok (.bool r) = true ∧ Sat w0 w' [] := by
    clear S
    intro w0 hw S
    rw [← hw] at rk0
    rw [← hw] at rk1
    clear hw
    unfold RingsOrder.f at h
    refine calls_start (N := 81) [(.slice A0 (List.length l0) c0), (.slice A1 (List.length l1) c1)] Tryz.func6 rfl rfl rfl (vok_c (vok_sl m0) (vok_c (vok_sl m1) rfl)) fun a fr => ?_
    refine wp_seq ?_
    refine wp_region_lit ?_
    refine wl_run orc_ok 1 rfl fr fun a fr => ?_
    refine wpList_nil ?_
    refine then_n ?_
    refine wp_seq ?_
    refine wp_seq ?_
    refine wp_region_lit ?_
    refine wl_run orc_ok 4 rfl fr fun a fr => ?_
    refine wl_split 17 fr rfl h (fun fr h => ?_) (fun fr h => ?_)
    · refine wl_run orc_ok 4 rfl fr fun a fr => ?_
      refine wpList_nil ?_
      refine then_n ?_
      refine cw_t fr rfl ?_
      refine wp_seq ?_
      refine wp_region_lit ?_
      refine wl_run orc_ok 1 rfl fr fun a fr => ?_
      refine wpList_nil ?_
      refine then_n ?_
      refine wp_ret ?_
      refine then_r ?_
      injection h with h
      subst h
      refine ret1 fr rfl rfl ?_
      exact ⟨rfl, fr.vok (d := 4) rfl, S.mask []⟩
    · refine wl_run orc_ok 4 rfl fr fun a fr => ?_
      refine wpList_nil ?_
      refine then_n ?_
      refine cw_if fr rfl h (fun h => ?_) (fun h => ?_)
      · refine wp_seq ?_
        refine wp_region_lit ?_
        refine wl_run orc_ok 1 rfl fr fun a fr => ?_
        refine wpList_nil ?_
        refine then_n ?_
        refine wp_ret ?_
        refine then_r ?_
        injection h with h
        subst h
        refine ret1 fr rfl rfl ?_
        exact ⟨rfl, fr.vok (d := 4) rfl, S.mask []⟩
      · refine wp_skip ?_
        refine then_n ?_
        refine wp_seq ?_
        refine wp_region_lit ?_
        refine wl_run orc_ok 1 rfl fr fun a fr => ?_
        obtain ⟨hc, h⟩ := ifs h
        refine wl_call fr rfl rfl rfl rfl en49 (twin_call (Rk.at rk0 S) hc S) ?_
        rintro _ w ⟨A2, c3, rfl, hv, S⟩
        refine ⟨_, rfl, hv, fun a fr => ?_⟩
        refine wl_run orc_ok 1 rfl fr fun a fr => ?_
        refine wpList_nil ?_
        refine then_n ?_
        refine wp_seq ?_
        refine wp_region_lit ?_
        refine wl_run orc_ok 1 rfl fr fun a fr => ?_
        obtain ⟨hc, h⟩ := ifs h
        refine wl_call fr rfl rfl rfl rfl en49 (twin_call (Rk.at rk1 S) hc S) ?_
        rintro _ w ⟨A4, c5, rfl, hv, S⟩
        refine ⟨_, rfl, hv, fun a fr => ?_⟩
        refine wl_run orc_ok 1 rfl fr fun a fr => ?_
        refine wpList_nil ?_
        refine then_n ?_
        refine wp_seq ?_
        refine wp_region_lit ?_
        refine wl_run orc_ok 2 rfl fr fun a fr => ?_
        obtain ⟨hc, h⟩ := ifs h
        obtain ⟨o6, hx, h⟩ := lt_h h
        have H := order_call (A := A2) (c := c3) (l := l0) (A1 := A4) (c1 := c5) (l1 := l1) (Sat.twnAt S 1 rfl) (Sat.twnAt S 0 rfl) (fr.slice (d := 27) rfl) (fr.slice (d := 28) rfl) hc S
        rw [hx] at H
        refine wl_call fr rfl rfl rfl rfl en50 H ?_
        clear H
        rintro _ w ⟨A7, c8, rfl, hv, S⟩
        refine ⟨_, rfl, hv, fun a fr => ?_⟩
        refine wl_run orc_ok 5 rfl fr fun a fr => ?_
        refine wpList_nil ?_
        refine then_n ?_
        refine wp_seq ?_
        refine wp_region_lit ?_
        refine wl_run orc_ok 2 rfl fr fun a fr => ?_
        obtain ⟨hc, h⟩ := ifs h
        obtain ⟨o9, hx, h⟩ := lt_h h
        have H := order_call (A := A2) (c := c3) (l := l0) (A1 := A4) (c1 := c5) (l1 := l1) (Sat.twnAt S 2 rfl) (Sat.twnAt S 1 rfl) (fr.slice (d := 33) rfl) (fr.slice (d := 34) rfl) hc S
        rw [hx] at H
        refine wl_call fr rfl rfl rfl rfl en50 H ?_
        clear H
        rintro _ w ⟨A10, c11, rfl, hv, S⟩
        refine ⟨_, rfl, hv, fun a fr => ?_⟩
        refine wl_run orc_ok 5 rfl fr fun a fr => ?_
        refine wpList_nil ?_
        refine then_n ?_
        refine wp_seq ?_
        refine wp_region_lit ?_
        refine wl_run orc_ok 2 rfl fr fun a fr => ?_
        obtain ⟨r12, hr, h⟩ := bnd h
        refine wl_call fr rfl rfl rfl rfl en51 (Order.walk k A0 c0 l0 A1 c1 l1 (Rk.at rk0 S) (fr.slice (d := 39) rfl) (Rk.at rk1 S) (fr.slice (d := 40) rfl) S hr) ?_
        rintro _ w ⟨A13, c14, rfl, hv, S⟩
        refine ⟨_, rfl, hv, fun a fr => ?_⟩
        refine wl_run orc_ok 5 rfl fr fun a fr => ?_
        refine wpList_nil ?_
        refine then_n ?_
        refine wp_seq ?_
        refine wp_seq ?_
        refine wp_region_lit ?_
        refine wl_run orc_ok 2 rfl fr fun a fr => ?_
        obtain ⟨r15, hr, h⟩ := bnd h
        refine wl_call fr rfl rfl rfl rfl en44 (SameIds.walk k A7 c8 (Option.getD o6 []) A13 c14 r12.1 (Sat.ownAt S 2 rfl) (fr.slice (d := 44) rfl) (Sat.ownAt S 0 rfl) (fr.slice (d := 45) rfl) S hr) ?_
        rintro _ w ⟨rfl, hv, S⟩
        refine ⟨_, rfl, hv, fun a fr => ?_⟩
        refine wl_run orc_ok 2 rfl fr fun a fr => ?_
        refine wl_split 48 fr rfl h (fun fr h => ?_) (fun fr h => ?_)
        · cases h
        · refine wl_run orc_ok 2 rfl fr fun a fr => ?_
          obtain ⟨r16, hr, h⟩ := bnd h
          refine wl_call fr rfl rfl rfl rfl en44 (SameIds.walk k A10 c11 (Option.getD o9 []) A13 c14 r12.1 (Sat.ownAt S 1 rfl) (fr.slice (d := 49) rfl) (Sat.ownAt S 0 rfl) (fr.slice (d := 50) rfl) S hr) ?_
          rintro _ w ⟨rfl, hv, S⟩
          refine ⟨_, rfl, hv, fun a fr => ?_⟩
          refine wl_run orc_ok 3 rfl fr fun a fr => ?_
          refine wl_split 54 fr rfl h (fun fr h => ?_) (fun fr h => ?_)
          · cases h
          · refine wl_run orc_ok 5 rfl fr fun a fr => ?_
            refine wl_split 59 fr rfl h (fun fr h => ?_) (fun fr h => ?_)
            · cases h
            · refine wl_run orc_ok 2 rfl fr fun a fr => ?_
              have S : Sat w0 _ [twA A2 c3 l0, ownA .u32 86 A13 c14 r12.1, ownA .u32 86 A10 c11 (Option.getD o9 []), ownA .u32 86 A7 c8 (Option.getD o6 []), twA A4 c5 l1] := S.frontAt 4 rfl
              obtain ⟨hc, h⟩ := ifs h
              refine wl_call fr rfl rfl rfl rfl en52 (left_call (Rk.at rk0 S) hc S) ?_
              rintro _ w ⟨rfl, S⟩
              refine ⟨_, rfl, rfl, fun a fr => ?_⟩
              refine wl_run orc_ok 5 rfl fr fun a fr => ?_
              have S : Sat w0 _ [twA A4 c5 l1, twA A2 c3 l0, ownA .u32 86 A13 c14 r12.1, ownA .u32 86 A10 c11 (Option.getD o9 []), ownA .u32 86 A7 c8 (Option.getD o6 [])] := S.frontAt 4 rfl
              obtain ⟨hc, h⟩ := ifs h
              refine wl_call fr rfl rfl rfl rfl en52 (left_call (Rk.at rk1 S) hc S) ?_
              rintro _ w ⟨rfl, S⟩
              refine ⟨_, rfl, rfl, fun a fr => ?_⟩
              refine wl_run orc_ok 2 rfl fr fun a fr => ?_
              refine wpList_nil ?_
              refine then_n ?_
              refine cw_f fr rfl ?_
              refine wp_skip ?_
              refine then_n ?_
              refine wp_seq ?_
              refine wp_region_lit ?_
              refine wl_build (cs := (Value.int .i64 0 :: List.replicate 12 (Value.slice none 0 0))) (L2 := []) fr rfl rfl rfl rfl (by simp) (by kernel_rfl) rfl fun a fr => ?_
              refine wl_allocg fr rfl rfl rfl rfl zeroBook rfl S ?_
              intro w g17 S a fr
              refine wl_stg orc_ok (cs := (Value.int .i64 0 :: List.replicate 12 (Value.slice none 0 0))) (vs := (Value.int .i64 0 :: List.replicate 12 (Value.slice none 0 0))) fr rfl rfl rfl rfl rfl rfl rfl rfl S ?_
              intro w S
              have S := S.newBook
              refine wpList_nil ?_
              refine then_n ?_
              refine wp_seq ?_
              refine wp_region_lit ?_
              refine wl_run orc_ok 1 rfl fr fun a fr => ?_
              obtain ⟨hc, h⟩ := ifs h
              have S : Sat w0 _ [twA A2 c3 l0, bookA g17 (0 : Int), twA A4 c5 l1, ownA .u32 86 A13 c14 r12.1, ownA .u32 86 A10 c11 (Option.getD o9 []), ownA .u32 86 A7 c8 (Option.getD o6 [])] := S.frontAt 2 rfl
              have S := S.twnOwn
              refine wl_call fr rfl rfl rfl rfl en46 (book_ids hc S) ?_
              rintro _ w ⟨rfl, S⟩
              refine ⟨_, rfl, rfl, fun a fr => ?_⟩
              refine wpList_nil ?_
              refine then_n ?_
              refine wp_seq ?_
              refine wp_region_lit ?_
              refine wl_run orc_ok 1 rfl fr fun a fr => ?_
              obtain ⟨hc, h⟩ := ifs h
              have S : Sat w0 _ [twA A4 c5 l1, bookA g17 ((0 : Int) + 1), ownA .u32 86 A13 c14 r12.1, ownA .u32 86 A10 c11 (Option.getD o9 []), ownA .u32 86 A7 c8 (Option.getD o6 [])] := S.frontAt 1 rfl
              have S := S.twnOwn
              refine wl_call fr rfl rfl rfl rfl en46 (book_ids hc S) ?_
              rintro _ w ⟨rfl, S⟩
              refine ⟨_, rfl, rfl, fun a fr => ?_⟩
              refine wpList_nil ?_
              refine then_n ?_
              refine wp_seq ?_
              refine wp_region_lit ?_
              refine wl_run orc_ok 1 rfl fr fun a fr => ?_
              obtain ⟨hc, h⟩ := ifs h
              have S : Sat w0 _ [ownA .u32 86 A7 c8 (Option.getD o6 []), bookA g17 (((0 : Int) + 1) + 1), ownA .u32 86 A13 c14 r12.1, ownA .u32 86 A10 c11 (Option.getD o9 [])] := S.frontAt 3 rfl
              refine wl_call fr rfl rfl rfl rfl en46 (book_ids hc S) ?_
              rintro _ w ⟨rfl, S⟩
              refine ⟨_, rfl, rfl, fun a fr => ?_⟩
              refine wpList_nil ?_
              refine then_n ?_
              refine wp_seq ?_
              refine wp_region_lit ?_
              refine wl_run orc_ok 1 rfl fr fun a fr => ?_
              obtain ⟨hc, h⟩ := ifs h
              have S : Sat w0 _ [ownA .u32 86 A10 c11 (Option.getD o9 []), bookA g17 ((((0 : Int) + 1) + 1) + 1), ownA .u32 86 A13 c14 r12.1] := S.frontAt 2 rfl
              refine wl_call fr rfl rfl rfl rfl en46 (book_ids hc S) ?_
              rintro _ w ⟨rfl, S⟩
              refine ⟨_, rfl, rfl, fun a fr => ?_⟩
              refine wpList_nil ?_
              refine then_n ?_
              refine wp_seq ?_
              refine wp_region_lit ?_
              refine wl_call fr rfl rfl rfl rfl en26 (book_apart S) ?_
              rintro _ w ⟨rfl, S⟩
              refine ⟨_, rfl, rfl, fun a fr => ?_⟩
              refine wl_run orc_ok 1 rfl fr fun a fr => ?_
              refine wpList_nil ?_
              refine then_n ?_
              refine wp_ret ?_
              injection h with h
              subst h
              refine ret1 fr rfl rfl ?_
              exact ⟨rfl, fr.vok (d := 4) rfl, S.mask [false]⟩
  exact (key w rfl (Sat.start w)).mono fun e w' ⟨h1, h2, h3⟩ => ⟨h1, h2, S.new h3.below⟩
end Go.Proofs.YticnjkdaccacaaaGreatDoor.Pl
end
section
/- The order of those who wait, plainly: when there is one, and which. -/
namespace Go.Proofs.YticnjkdaccacaaaGreatDoor.Sx
open Go Go.RowKit Base Own

theorem freeAt_iff {es : List (Int × Int)} {out : List Int} {x : Int} : freeAt es out x = true ↔ ∀ y, (x, y) ∈ es → y ∈ out := by
  unfold freeAt
  rw [List.all_eq_true]
  constructor
  · intro h y hy
    simpa using h y (mem_tgt.2 hy)
  · intro h y hy
    simpa using h y (mem_tgt.1 hy)
theorem bool_ext {a b : Bool} (h : a = true ↔ b = true) : a = b := by cases a <;> cases b <;> simp_all
theorem uniq_sorted {l1 l2 : List Int} (h1 : l1.Pairwise (· < ·)) (h2 : l2.Pairwise (· < ·)) (h : ∀ x, x ∈ l1 ↔ x ∈ l2) : l1 = l2 := by
  have n1 : l1.Nodup := h1.imp (fun hab e => by omega)
  have n2 : l2.Nodup := h2.imp (fun hab e => by omega)
  exact List.Perm.eq_of_pairwise (le := fun x y => x < y) (fun a b _ _ h1 h2 => by omega) h1 h2 ((List.perm_ext_iff_of_nodup n1 n2).2 h)
/-- All that wait, and for whom they wait, rising. -/
def nds (es : List (Int × Int)) : List Int := risen (keysM (wtL es))
theorem nds_mem {es : List (Int × Int)} {x : Int} : x ∈ nds es ↔ nodeOf es x := by
  unfold nds
  rw [risen_mem]
  have h1 := (lk_wtL es).1 x
  constructor
  · intro hx
    refine Classical.byContradiction fun hn => ?_
    rw [if_neg hn] at h1
    exact (lk_none.1 h1) hx
  · intro hx
    rw [if_pos hx] at h1
    refine Classical.byContradiction fun hn => ?_
    rw [lk_none.2 hn] at h1; cases h1
theorem nds_sorted (es : List (Int × Int)) : (nds es).Pairwise (· < ·) := by
  have h1 := List.pairwise_mergeSort (le := fun (x y : Int) => decide (x ≤ y)) (fun a b c h1 h2 => by simp only [decide_eq_true_eq] at *; omega) (fun a b => by simp only [Bool.or_eq_true, decide_eq_true_eq]; omega) (keysM (wtL es))
  have h2 : (nds es).Nodup := risen_nodup (lk_wtL es).2
  have h3 := h1.and h2
  exact h3.imp (fun {a b} hab => by
    have p : a ≤ b := by simpa using hab.1
    have q := hab.2
    omega)
theorem ordF_eq {es : List (Int × Int)} {W : List Int} (hs : W.Pairwise (· < ·)) (hm : ∀ x, x ∈ W ↔ nodeOf es x) : ordF es = ordGo es W.length W [] := by
  have : nds es = W := uniq_sorted (nds_sorted es) hs (fun x => by rw [nds_mem, hm])
  have hl : (keysM (wtL es)).length = W.length := by rw [← this]; exact (risen_len _).symm
  unfold ordF
  rw [hl]
  show ordGo es W.length (nds es) [] = _
  rw [this]
theorem ordF_nds (es : List (Int × Int)) : ordF es = ordGo es (nds es).length (nds es) [] := ordF_eq (nds_sorted es) fun _ => nds_mem
theorem ordGo_congr {es fs : List (Int × Int)} (h : ∀ out x, freeAt es out x = freeAt fs out x) : ∀ (n : Nat) (left out : List Int), ordGo es n left out = ordGo fs n left out := by
  intro n
  induction n with
  | zero => intro left out; rfl
  | succ n ih =>
    intro left out
    unfold ordGo
    have : freeAt es out = freeAt fs out := funext (h out)
    rw [this]
    split
    · rfl
    · split
      · rfl
      · exact ih _ _
theorem ordF_same {es fs : List (Int × Int)} (h : ∀ p, p ∈ es ↔ p ∈ fs) : ordF es = ordF fs := by
  rw [ordF_nds es, ordF_eq (W := nds es) (es := fs) (nds_sorted es) (fun x => by
    rw [nds_mem]
    unfold nodeOf
    exact ⟨fun ⟨p, hp, q⟩ => ⟨p, (h p).1 hp, q⟩, fun ⟨p, hp, q⟩ => ⟨p, (h p).2 hp, q⟩⟩)]
  refine ordGo_congr (fun out x => bool_ext ?_) _ _ _
  rw [freeAt_iff, freeAt_iff]
  exact ⟨fun q y hy => q y ((h _).2 hy), fun q y hy => q y ((h _).1 hy)⟩
/-! ### Which order it is -/
def VF (es : List (Int × Int)) : List Int → List Int → List Int → Prop
  | [], _, left => left = []
  | x :: rest, out, left => x ∈ left ∧ freeAt es out x = true ∧ (∀ z ∈ left, freeAt es out z = true → x ≤ z) ∧ VF es rest (out ++ [x]) (left.erase x)
theorem find_least {p : Int → Bool} : ∀ {l : List Int} {x : Int}, l.Pairwise (· < ·) → l.find? p = some x → ∀ z ∈ l, p z = true → x ≤ z := by
  intro l
  induction l with
  | nil => intro x _ h; cases h
  | cons y l ih =>
    intro x hs h z hz hp
    rw [List.pairwise_cons] at hs
    rw [List.find?_cons] at h
    cases hy : p y with
    | true =>
      rw [hy] at h
      injection h with h
      subst h
      rcases List.mem_cons.1 hz with rfl | hz
      · exact Int.le_refl _
      · exact Int.le_of_lt (hs.1 z hz)
    | false =>
      rw [hy] at h
      rcases List.mem_cons.1 hz with rfl | hz
      · rw [hy] at hp; cases hp
      · exact ih hs.2 h z hz hp
theorem erase_len {l : List Int} {x : Int} {n : Nat} (h : x ∈ l) (hn : l.length = n + 1) : (l.erase x).length = n := by
  rw [List.length_erase_of_mem h]; omega
theorem ordGo_iff (es : List (Int × Int)) : ∀ (n : Nat) (left out l : List Int), left.Pairwise (· < ·) → left.length = n → (ordGo es n left out = some l ↔ ∃ rest, l = out ++ rest ∧ VF es rest out left) := by
  intro n
  induction n with
  | zero =>
    intro left out l hs hn
    obtain rfl : left = [] := List.eq_nil_of_length_eq_zero hn
    unfold ordGo
    rw [if_pos rfl]
    constructor
    · intro h; injection h with h; exact ⟨[], by simp [h], rfl⟩
    · rintro ⟨rest, rfl, hv⟩
      cases rest with
      | nil => simp
      | cons x r => exact absurd hv.1 (by simp)
  | succ n ih =>
    intro left out l hs hn
    have hne : left ≠ [] := fun e => by rw [e] at hn; simp at hn
    unfold ordGo
    rw [if_neg hne]
    cases hf : left.find? (freeAt es out) with
    | none =>
      have hno := List.find?_eq_none.1 hf
      simp only
      constructor
      · intro h; cases h
      · rintro ⟨rest, rfl, hv⟩
        cases rest with
        | nil => exact absurd hv hne
        | cons x r => exact absurd hv.2.1 (hno x hv.1)
    | some x =>
      have hx := List.mem_of_find?_eq_some hf
      have hp := List.find?_some hf
      have hl := find_least hs hf
      simp only
      rw [ih (left.erase x) (out ++ [x]) l (hs.sublist List.erase_sublist) (erase_len hx hn)]
      constructor
      · rintro ⟨rest, rfl, hv⟩
        exact ⟨x :: rest, by simp, hx, hp, hl, hv⟩
      · rintro ⟨rest, rfl, hv⟩
        cases rest with
        | nil => exact absurd hv hne
        | cons y r =>
          obtain ⟨h1, h2, h3, h4⟩ := hv
          have e : x = y := Int.le_antisymm (hl y h1 h2) (h3 x hx hp)
          subst e
          exact ⟨r, by simp, h4⟩
theorem VF.perm {es : List (Int × Int)} : ∀ {rest out left : List Int}, VF es rest out left → rest.Perm left := by
  intro rest
  induction rest with
  | nil => intro out left h; rw [show left = [] from h]
  | cons x r ih =>
    intro out left ⟨h1, _, _, h4⟩
    exact (List.Perm.cons x (ih h4)).trans (List.perm_cons_erase h1).symm
theorem VF.free {es : List (Int × Int)} : ∀ {rest out left : List Int}, VF es rest out left → ∀ p x s, rest = p ++ x :: s → freeAt es (out ++ p) x = true := by
  intro rest
  induction rest with
  | nil => intro out left _ p x s h; simp at h
  | cons y r ih =>
    intro out left ⟨_, h2, _, h4⟩ p x s h
    cases p with
    | nil => simp only [List.nil_append, List.cons.injEq] at h; rw [List.append_nil, ← h.1]; exact h2
    | cons z p =>
      simp only [List.cons_append, List.cons.injEq] at h
      have := ih h4 p x s h.2
      rw [List.append_assoc, List.singleton_append, h.1] at this
      exact this
theorem VF.least {es : List (Int × Int)} : ∀ {rest out left : List Int}, VF es rest out left → ∀ p x s, rest = p ++ x :: s → ∀ z ∈ x :: s, freeAt es (out ++ p) z = true → x ≤ z := by
  intro rest
  induction rest with
  | nil => intro out left _ p x s h; simp at h
  | cons y r ih =>
    intro out left hv p x s h z hz hf
    obtain ⟨h1, _, h3, h4⟩ := hv
    cases p with
    | nil =>
      simp only [List.nil_append, List.cons.injEq] at h
      rw [List.append_nil] at hf
      rw [← h.1]
      refine h3 z ?_ hf
      rcases List.mem_cons.1 hz with rfl | hz
      · rw [← h.1]; exact h1
      · rw [← h.2] at hz
        exact List.mem_of_mem_erase (h4.perm.subset hz)
    | cons q p =>
      simp only [List.cons_append, List.cons.injEq] at h
      refine ih h4 p x s h.2 z hz ?_
      rw [List.append_assoc, List.singleton_append, h.1]
      exact hf
/-- What an order is. -/
structure Ord (es : List (Int × Int)) (l : List Int) : Prop where
  nodup : l.Nodup
  mem : ∀ x, x ∈ l ↔ nodeOf es x
  free : ∀ p x s, l = p ++ x :: s → ∀ y, (x, y) ∈ es → y ∈ p
  least : ∀ p x s, l = p ++ x :: s → ∀ z ∈ x :: s, (∀ y, (z, y) ∈ es → y ∈ p) → x ≤ z
theorem Ord.of {es : List (Int × Int)} {l : List Int} (h : ordF es = some l) : Ord es l := by
  rw [ordF_nds, ordGo_iff es _ _ _ _ (nds_sorted es) rfl] at h
  obtain ⟨rest, rfl, hv⟩ := h
  refine ⟨?_, fun x => ?_, fun p x s e => ?_, fun p x s e z hz hf => ?_⟩
  · exact (hv.perm.nodup_iff).2 ((nds_sorted es).imp (fun hab e => by omega))
  · rw [hv.perm.mem_iff, nds_mem]
  · have := hv.free p x s e
    rw [List.nil_append] at this
    exact freeAt_iff.1 this
  · refine hv.least p x s e z hz ?_
    rw [List.nil_append]
    exact freeAt_iff.2 hf
theorem VF.mk {es : List (Int × Int)} : ∀ (rest out left : List Int), rest.Perm left → rest.Nodup → (∀ p x s, rest = p ++ x :: s → freeAt es (out ++ p) x = true) → (∀ p x s, rest = p ++ x :: s → ∀ z ∈ x :: s, freeAt es (out ++ p) z = true → x ≤ z) → VF es rest out left := by
  intro rest
  induction rest with
  | nil => intro out left hp _ _ _; exact hp.symm.eq_nil
  | cons x r ih =>
    intro out left hp hn hf hl
    rw [List.nodup_cons] at hn
    refine ⟨hp.subset List.mem_cons_self, by have := hf [] x r rfl; rwa [List.append_nil] at this, fun z hz hz2 => ?_, ih (out ++ [x]) (left.erase x) ?_ hn.2 (fun p y s e => ?_) (fun p y s e z hz hz2 => ?_)⟩
    · refine hl [] x r rfl z (hp.symm.subset hz) ?_
      rw [List.append_nil]; exact hz2
    · have := hp.erase x
      rwa [List.erase_cons_head] at this
    · have := hf (x :: p) y s (by rw [e]; rfl)
      rw [List.append_assoc, List.singleton_append]; exact this
    · refine hl (x :: p) y s (by rw [e]; rfl) z hz ?_
      rw [List.append_assoc, List.singleton_append] at hz2; exact hz2
theorem Ord.is {es : List (Int × Int)} {l : List Int} (h : Ord es l) : ordF es = some l := by
  rw [ordF_nds, ordGo_iff es _ _ _ _ (nds_sorted es) rfl]
  refine ⟨l, rfl, VF.mk l [] _ ?_ h.nodup (fun p x s e => ?_) (fun p x s e z hz hf => ?_)⟩
  · exact (List.perm_ext_iff_of_nodup h.nodup ((nds_sorted es).imp (fun hab e => by omega))).2 fun x => by rw [h.mem, nds_mem]
  · rw [List.nil_append, freeAt_iff]; exact h.free p x s e
  · rw [List.nil_append, freeAt_iff] at hf; exact h.least p x s e z hz hf
/-! ### When there is one -/
def Ring (es : List (Int × Int)) : Prop := ∃ p ∈ es, Cms es p.2 p.1
theorem take_idx {l : List Int} {b : Int} : ∀ {i : Nat}, b ∈ l.take i → l.idxOf b < i := by
  induction l with
  | nil => intro i h; simp at h
  | cons x l ih =>
    intro i h
    cases i with
    | zero => simp at h
    | succ i =>
      rw [List.take_succ_cons] at h
      rw [List.idxOf_cons]
      by_cases hx : x = b
      · have : (x == b) = true := by simpa using hx
        rw [this]; simp
      · have : (x == b) = false := by simpa using hx
        rw [this]
        rcases List.mem_cons.1 h with h | h
        · exact absurd h.symm hx
        · have := ih h
          simp only [cond_false]; omega
theorem idx_split {l : List Int} {a : Int} (h : a ∈ l) : l = l.take (l.idxOf a) ++ a :: l.drop (l.idxOf a + 1) := by
  have hi := List.idxOf_lt_length_of_mem h
  conv => lhs; rw [← List.take_append_drop (l.idxOf a) l, List.drop_eq_getElem_cons hi, List.getElem_idxOf hi]
theorem Ord.edge {es : List (Int × Int)} {l : List Int} (h : Ord es l) {a b : Int} (hm : (a, b) ∈ es) : l.idxOf b < l.idxOf a :=
  take_idx (h.free _ a _ (idx_split ((h.mem a).2 ⟨_, hm, .inl rfl⟩)) b hm)
theorem Ord.comes {es : List (Int × Int)} {l : List Int} (h : Ord es l) {a b : Int} (hc : Cms es a b) : l.idxOf b ≤ l.idxOf a := by
  induction hc with
  | here => exact Nat.le_refl _
  | step _ hm ih => exact Nat.le_trans (Nat.le_of_lt (h.edge hm)) ih
theorem Ord.noRing {es : List (Int × Int)} {l : List Int} (h : Ord es l) : ¬ Ring es := by
  rintro ⟨⟨a, b⟩, hm, hc⟩
  have h1 := h.edge hm
  have h2 := h.comes hc
  simp only at h2
  omega
theorem filter_lt {p q : Int → Bool} {l : List Int} (h : ∀ z ∈ l, q z = true → p z = true) {x : Int} (hx : x ∈ l) (h1 : p x = true) (h2 : q x = false) : (l.filter q).length < (l.filter p).length := by
  have hle : ∀ l : List Int, (∀ z ∈ l, q z = true → p z = true) → (l.filter q).length ≤ (l.filter p).length := by
    intro l
    induction l with
    | nil => intro _; exact Nat.le_refl _
    | cons y l ih =>
      intro h
      have := ih fun z hz => h z (List.mem_cons_of_mem _ hz)
      rw [List.filter_cons, List.filter_cons]
      by_cases hq : q y = true
      · rw [if_pos hq, if_pos (h y List.mem_cons_self hq)]; simp only [List.length_cons]; omega
      · rw [if_neg hq]
        split
        · simp only [List.length_cons]; omega
        · exact this
  induction l with
  | nil => cases hx
  | cons y l ih =>
    have h' : ∀ z ∈ l, q z = true → p z = true := fun z hz => h z (List.mem_cons_of_mem _ hz)
    rw [List.filter_cons, List.filter_cons]
    rcases List.mem_cons.1 hx with rfl | hx
    · rw [if_neg (by rw [h2]; decide), if_pos h1]
      have := hle l h'
      simp only [List.length_cons]; omega
    · have := ih h' hx
      by_cases hq : q y = true
      · rw [if_pos hq, if_pos (h y List.mem_cons_self hq)]; simp only [List.length_cons]; omega
      · rw [if_neg hq]
        split
        · simp only [List.length_cons]; omega
        · exact this
theorem some_free {es : List (Int × Int)} {left out : List Int} (hr : ¬ Ring es) (hne : left ≠ []) (hc : ∀ x ∈ left, ∀ y, (x, y) ∈ es → y ∈ left ∨ y ∈ out) : ∃ x ∈ left, freeAt es out x = true := by
  refine Classical.byContradiction fun hno => ?_
  have hstep : ∀ x ∈ left, ∃ y ∈ left, (x, y) ∈ es := by
    intro x hx
    refine Classical.byContradiction fun hn => hno ⟨x, hx, freeAt_iff.2 fun y hy => ?_⟩
    rcases hc x hx y hy with h | h
    · exact absurd ⟨y, h, hy⟩ hn
    · exact h
  have key : ∀ n x, x ∈ left → (left.filter (comesB es x)).length = n → False := by
    intro n
    induction n using Nat.strongRecOn with
    | _ n ih =>
      intro x hx hn
      obtain ⟨y, hy, he⟩ := hstep x hx
      refine ih _ ?_ y hy rfl
      rw [← hn]
      refine filter_lt (fun z _ hz => ?_) hx ((comes_iff _ _ _).2 .here) ?_
      · rw [comes_iff] at hz ⊢; exact Cms.first he hz
      · cases hb : comesB es y x with
        | false => rfl
        | true => exact absurd ⟨(x, y), he, (comes_iff _ _ _).1 hb⟩ hr
  obtain ⟨x, hx⟩ := List.exists_mem_of_ne_nil _ hne
  exact key _ x hx rfl
theorem ordGo_some {es : List (Int × Int)} (hr : ¬ Ring es) : ∀ (n : Nat) (left out : List Int), left.length = n → left.Nodup → (∀ x ∈ left, ∀ y, (x, y) ∈ es → y ∈ left ∨ y ∈ out) → ∃ l, ordGo es n left out = some l := by
  intro n
  induction n with
  | zero =>
    intro left out hn _ _
    obtain rfl : left = [] := List.eq_nil_of_length_eq_zero hn
    exact ⟨out, rfl⟩
  | succ n ih =>
    intro left out hn hnd hc
    have hne : left ≠ [] := fun e => by rw [e] at hn; simp at hn
    obtain ⟨x0, hx0, hf0⟩ := some_free hr hne hc
    unfold ordGo
    rw [if_neg hne]
    cases hf : left.find? (freeAt es out) with
    | none => exact absurd hf0 (List.find?_eq_none.1 hf x0 hx0)
    | some x =>
      have hx := List.mem_of_find?_eq_some hf
      refine ih (left.erase x) (out ++ [x]) (erase_len hx hn) (hnd.sublist List.erase_sublist) fun z hz y hy => ?_
      rcases hc z (List.mem_of_mem_erase hz) y hy with h | h
      · by_cases hyx : y = x
        · subst hyx; exact .inr (List.mem_append_right _ (List.mem_singleton_self _))
        · exact .inl ((List.mem_erase_of_ne hyx).2 h)
      · exact .inr (List.mem_append_left _ h)
theorem ord_iff (es : List (Int × Int)) : (ordF es).isSome = true ↔ ¬ Ring es := by
  constructor
  · intro h
    obtain ⟨l, hl⟩ := Option.isSome_iff_exists.1 h
    exact (Ord.of hl).noRing
  · intro h
    obtain ⟨l, hl⟩ := ordGo_some h (nds es).length (nds es) [] rfl ((nds_sorted es).imp (fun hab e => by omega)) (fun x hx y hy => .inl (nds_mem.2 ⟨_, hy, .inr rfl⟩))
    rw [ordF_nds, hl]; rfl
theorem ordR_eq {l0 l1 : List Int} (h : l0.length = l1.length) : ordR l0 l1 = ordF (l0.zip l1) := if_pos h
end Go.Proofs.YticnjkdaccacaaaGreatDoor.Sx
end
section
/- The plain law of RingsOrder. -/
namespace Go.Proofs.YticnjkdaccacaaaGreatDoor.Pl
open Go Go.RowKit Sx Base Own

theorem same_l1 (l : List Int) (hl : l.length ≤ 100000) : ∀ (d k i : Nat), i + d = l.length → d < k → SameIds.l1 k l l (i : Int) = some true := by
  intro d
  induction d with
  | zero =>
    intro k i hi hk
    obtain ⟨k, rfl⟩ : ∃ q, k = q + 1 := ⟨k - 1, by omega⟩
    rw [SameIds.l1, iff_ (df (by omega))]
  | succ d ih =>
    intro k i hi hk
    obtain ⟨k, rfl⟩ : ∃ q, k = q + 1 := ⟨k - 1, by omega⟩
    rw [SameIds.l1, ift (dt (by omega)), if_pos (by omega), if_pos (by omega), iff_ (bne_no rfl), w64s (by omega)]
    exact ih k (i + 1) (by omega) (by omega)
theorem same_is (l : List Int) (hl : l.length ≤ 100000) {k : Nat} (hk : l.length < k) : SameIds.f k l l = some true := by
  unfold SameIds.f
  rw [iff_ (bne_no rfl)]
  exact same_l1 l hl l.length k 0 (by omega) hk

theorem in_l1 (l : List Int) (x : Int) (hl : l.length ≤ 100000) : ∀ (d k i : Nat), i + d = l.length → d < k → «in».l1 k l x (i : Int) = some (decide (x ∈ l.drop i)) := by
  intro d
  induction d with
  | zero =>
    intro k i hi hk
    obtain ⟨k, rfl⟩ : ∃ q, k = q + 1 := ⟨k - 1, by omega⟩
    rw [«in».l1, iff_ (df (by omega)), List.drop_eq_nil_of_le (by omega)]
    rfl
  | succ d ih =>
    intro k i hi hk
    obtain ⟨k, rfl⟩ : ∃ q, k = q + 1 := ⟨k - 1, by omega⟩
    have hlt : i < l.length := by omega
    have hd : l.drop i = l[i] :: l.drop (i + 1) := List.drop_eq_getElem_cons hlt
    have hg : l.getD (Int.toNat (i : Int)) 0 = l[i] := by rw [Int.toNat_natCast, List.getD_eq_getElem?_getD, List.getElem?_eq_getElem hlt]; rfl
    rw [«in».l1, ift (dt (by omega)), if_pos ⟨by omega, by omega⟩, hg, hd]
    by_cases h : l[i] = x
    · rw [ift (by simp [h]), decide_eq_true (by rw [h]; exact List.mem_cons_self)]
    · rw [iff_ (by simp [h]), w64s (by omega), ih k (i + 1) (by omega) (by omega)]
      congr 1
      exact bool_ext (by
        simp only [decide_eq_true_eq, List.mem_cons]
        exact ⟨.inr, fun e => e.elim (fun e => absurd e.symm h) id⟩)
theorem in_is {l : List Int} {x : Int} {k : Nat} (hl : l.length ≤ 100000) (hk : l.length < k) : «in».f k l x = some (decide (x ∈ l)) := by
  unfold «in».f
  have := in_l1 l x hl l.length k 0 (by omega) hk
  rwa [List.drop_zero] at this
def ins (l : List Int) (x : Int) : List Int := if x ∈ l then l else l ++ [x]
def ins2 (l : List Int) (p : Int × Int) : List Int := ins (ins l p.1) p.2
theorem ins_len (l : List Int) (x : Int) : (ins l x).length ≤ l.length + 1 := by
  unfold ins
  split
  · omega
  · simp
theorem ins_mem {l : List Int} {x y : Int} : y ∈ ins l x ↔ y ∈ l ∨ y = x := by
  unfold ins
  split
  · rename_i h
    constructor
    · exact .inl
    · rintro (h1 | rfl)
      · exact h1
      · exact h
  · simp
theorem ins_nodup {l : List Int} {x : Int} (h : l.Nodup) : (ins l x).Nodup := by
  unfold ins
  split
  · exact h
  · rename_i hx
    rw [List.nodup_append]
    refine ⟨h, by simp, fun a ha b hb e => ?_⟩
    rw [List.mem_singleton] at hb
    subst hb; subst e
    exact hx ha
theorem fold_len : ∀ (es : List (Int × Int)) (acc : List Int), (es.foldl ins2 acc).length ≤ acc.length + 2 * es.length := by
  intro es
  induction es with
  | nil => intro acc; simp
  | cons p es ih =>
    intro acc
    have h1 := ih (ins2 acc p)
    have h2 := ins_len (ins acc p.1) p.2
    have h3 := ins_len acc p.1
    rw [List.foldl_cons, List.length_cons]
    unfold ins2 at h1 ⊢
    omega
theorem fold_mem : ∀ (es : List (Int × Int)) (acc : List Int) (y : Int), y ∈ es.foldl ins2 acc ↔ y ∈ acc ∨ ∃ p ∈ es, y = p.1 ∨ y = p.2 := by
  intro es
  induction es with
  | nil => intro acc y; simp
  | cons p es ih =>
    intro acc y
    rw [List.foldl_cons, ih]
    unfold ins2
    rw [ins_mem, ins_mem]
    constructor
    · rintro (((h | h) | h) | ⟨q, h1, h2⟩)
      · exact .inl h
      · exact .inr ⟨p, List.mem_cons_self, .inl h⟩
      · exact .inr ⟨p, List.mem_cons_self, .inr h⟩
      · exact .inr ⟨q, List.mem_cons_of_mem _ h1, h2⟩
    · rintro (h | ⟨q, h1, h2⟩)
      · exact .inl (.inl (.inl h))
      · rcases List.mem_cons.1 h1 with rfl | h1
        · rcases h2 with h2 | h2
          · exact .inl (.inl (.inr h2))
          · exact .inl (.inr h2)
        · exact .inr ⟨q, h1, h2⟩
theorem fold_nodup : ∀ (es : List (Int × Int)) (acc : List Int), acc.Nodup → (es.foldl ins2 acc).Nodup := by
  intro es
  induction es with
  | nil => intro acc h; exact h
  | cons p es ih => intro acc h; exact ih _ (ins_nodup (ins_nodup h))
theorem zip_drop {l0 l1 : List Int} (he : l0.length = l1.length) {i : Nat} (h0 : i < l0.length) (h1 : i < l1.length) : (l0.zip l1).drop i = (l0[i], l1[i]) :: (l0.zip l1).drop (i + 1) := by
  have hz : i < (l0.zip l1).length := by rw [List.length_zip]; omega
  rw [List.drop_eq_getElem_cons hz, List.getElem_zip]
theorem gd {l : List Int} {i : Nat} (h : i < l.length) : l.getD (Int.toNat (i : Int)) 0 = l[i] := by rw [Int.toNat_natCast, List.getD_eq_getElem?_getD, List.getElem?_eq_getElem h]; rfl
theorem refb_is {l0 l1 : List Int} (he : l0.length = l1.length) (hb : l0.length ≤ 40) : ∀ (d k i : Nat) (acc : List Int), i + d = l0.length → acc.length ≤ 2 * i → d + 200 < k → Order.l1 k l0 l1 acc (i : Int) = Order.l2 (k - d - 1) l0 l1 [] (((l0.zip l1).drop i).foldl ins2 acc) := by
  intro d
  induction d with
  | zero =>
    intro k i acc hi ha hk
    obtain ⟨k, rfl⟩ : ∃ q, k = q + 1 := ⟨k - 1, by omega⟩
    rw [Order.l1, iff_ (df (by omega)), List.drop_eq_nil_of_le (by rw [List.length_zip]; omega)]
    rfl
  | succ d ih =>
    intro k i acc hi ha hk
    obtain ⟨k, rfl⟩ : ∃ q, k = q + 1 := ⟨k - 1, by omega⟩
    have hlt : i < l0.length := by omega
    have hlt1 : i < l1.length := by omega
    have hj2 : ∀ l : List Int, l.length ≤ 2 * i + 1 → Order.j2 k (Order.l1 k l0 l1) i l1 l = Order.l1 k l0 l1 (ins l l1[i]) ((i + 1 : Nat) : Int) := fun l hl => by
      unfold Order.j2 Order.j1 ins
      rw [if_pos ⟨by omega, by omega⟩, gd hlt1, in_is (by omega) (by omega), Option.bind_some, w64s (by omega)]
      by_cases h : l1[i] ∈ l
      · rw [decide_eq_true h, if_pos h, iff_ (by rfl)]
      · rw [decide_eq_false h, if_neg h, ift (by rfl), if_pos ⟨by omega, by omega⟩, if_pos (by simp; omega)]
    have hlen := ins_len acc l0[i]
    have hlen2 := ins_len (ins acc l0[i]) l1[i]
    have main : Order.l1 (k + 1) l0 l1 acc (i : Int) = Order.j2 k (Order.l1 k l0 l1) i l1 (ins acc l0[i]) := by
      rw [Order.l1, ift (dt (by omega)), if_pos ⟨by omega, by omega⟩, gd hlt, in_is (by omega) (by omega), Option.bind_some]
      unfold ins
      by_cases h : l0[i] ∈ acc
      · rw [decide_eq_true h, if_pos h, iff_ (by rfl)]
      · rw [decide_eq_false h, if_neg h, ift (by rfl), if_pos ⟨by omega, by omega⟩, if_pos (by simp; omega)]
    rw [main, hj2 _ (by omega), ih k (i + 1) _ (by omega) (by omega) (by omega), zip_drop he hlt hlt1, List.foldl_cons]
    rw [show k + 1 - (d + 1) - 1 = k - d - 1 by omega]
    rfl
/-- Is one free, of those that are left? -/
def fre (es : List (Int × Int)) (left : List Int) (x : Int) : Bool := es.all fun p => p.1 != x || !(decide (p.2 ∈ left))
theorem fre_iff {es : List (Int × Int)} {left : List Int} {x : Int} : fre es left x = true ↔ ∀ p ∈ es, p.1 = x → p.2 ∉ left := by
  unfold fre
  rw [List.all_eq_true]
  constructor
  · intro h p hp e
    have := h p hp
    simpa [e] using this
  · intro h p hp
    by_cases e : p.1 = x
    · simp [e, h p hp e]
    · simp [e]
def fin (kl3 : Int → Int → Option (List Int × Bool)) (left : List Int) (i : Nat) (y : Int) (b : Bool) : Option (List Int × Bool) :=
  if b = true then (if y < 0 then kl3 i ((i + 1 : Nat) : Int) else if left.getD i 0 < left.getD y.toNat 0 then kl3 i ((i + 1 : Nat) : Int) else kl3 y ((i + 1 : Nat) : Int)) else kl3 y ((i + 1 : Nat) : Int)
theorem free_is {l0 l1 left : List Int} (he : l0.length = l1.length) (hb : l0.length ≤ 40) (hl : left.length ≤ 100) (kl3 : Int → Int → Option (List Int × Bool)) {i : Nat} (hi : i < left.length) {y : Int} (hy : y < (left.length : Int)) : ∀ (d k j : Nat) (b : Bool), j + d = l0.length → d + 200 < k →
    Order.l4 k kl3 l0 (i : Int) left l1 y b (j : Int) = fin kl3 left i y (b && ((l0.zip l1).drop j).all fun p => p.1 != left[i] || !(decide (p.2 ∈ left))) := by
  intro d
  induction d with
  | zero =>
    intro k j b hj hk
    obtain ⟨k, rfl⟩ : ∃ q, k = q + 1 := ⟨k - 1, by omega⟩
    rw [Order.l4, iff_ (df (by omega)), List.drop_eq_nil_of_le (by rw [List.length_zip]; omega)]
    unfold fin Order.j3
    rw [List.all_nil, Bool.and_true, w64s (by omega)]
    by_cases hb : b = true
    · rw [ift hb, ift hb]
      by_cases h0 : y < 0
      · rw [ift (dt h0), if_pos h0]
      · rw [iff_ (df h0), if_neg h0, if_pos ⟨by omega, by omega⟩, if_pos ⟨by omega, by omega⟩, Int.toNat_natCast]
        by_cases h1 : left.getD i 0 < left.getD y.toNat 0
        · rw [ift (dt h1), if_pos h1]
        · rw [iff_ (df h1), if_neg h1]
    · rw [if_neg hb, if_neg hb]
  | succ d ih =>
    intro k j b hj hk
    obtain ⟨k, rfl⟩ : ∃ q, k = q + 1 := ⟨k - 1, by omega⟩
    have hlt : j < l0.length := by omega
    have hlt1 : j < l1.length := by omega
    have hn : ∀ b', Order.j4 (Order.l4 k kl3 l0 (i : Int) left l1 y) (j : Int) b' = fin kl3 left i y (b' && ((l0.zip l1).drop (j + 1)).all fun p => p.1 != left[i] || !(decide (p.2 ∈ left))) := fun b' => by
      unfold Order.j4
      rw [w64s (by omega)]
      exact ih k (j + 1) b' (by omega) (by omega)
    rw [Order.l4, ift (dt (by omega)), zip_drop he hlt hlt1, List.all_cons]
    by_cases hb : b = true
    · rw [ift hb, if_pos ⟨by omega, by omega⟩, if_pos ⟨by omega, by omega⟩, gd hlt, gd hi, hb, Bool.true_and]
      by_cases h1 : l0[j] = left[i]
      · rw [iff_ (by simp [h1]), if_pos ⟨by omega, by omega⟩, gd hlt1, in_is (by omega) (by omega), Option.bind_some, hn]
        congr 1
        simp [h1]
      · rw [ift (by simp [h1]), hn]
        congr 1
        simp [h1]
    · have hb : b = false := by simpa using hb
      rw [iff_ hb, hn, hb]
      congr 1
/-- The least of those that are free, of the first i. -/
def Best (es : List (Int × Int)) (left : List Int) (i : Nat) (y : Int) : Prop := (y = -1 ∧ ∀ j < i, fre es left (left.getD j 0) = false) ∨ ∃ j < i, y = (j : Nat) ∧ fre es left (left.getD j 0) = true ∧ ∀ q < i, fre es left (left.getD q 0) = true → left.getD j 0 ≤ left.getD q 0
def fins (kl2 : List Int → List Int → Option (List Int × Bool)) (left out : List Int) (y : Int) : Option (List Int × Bool) :=
  if y < 0 then some ([], false) else kl2 (out ++ [left.getD y.toNat 0]) (left.take y.toNat ++ left.drop (y.toNat + 1))
theorem least_is {l0 l1 left out : List Int} (he : l0.length = l1.length) (hb : l0.length ≤ 40) (hl : left.length ≤ 100) (ho : out.length ≤ 100) (kl2 : List Int → List Int → Option (List Int × Bool)) : ∀ (d k i : Nat) (y : Int), i + d = left.length → d + 300 < k → i ≤ left.length → Best (l0.zip l1) left i y →
    ∃ z, Best (l0.zip l1) left left.length z ∧ Order.l3 k kl2 left l0 l1 out y (i : Int) = fins kl2 left out z := by
  intro d
  induction d with
  | zero =>
    intro k i y hi hk hil hbest
    obtain ⟨k, rfl⟩ : ∃ q, k = q + 1 := ⟨k - 1, by omega⟩
    obtain rfl : i = left.length := by omega
    refine ⟨y, hbest, ?_⟩
    rw [Order.l3, iff_ (df (by omega))]
    rcases hbest with ⟨rfl, _⟩ | ⟨j, hj, rfl, _, _⟩
    · rw [ift (by rfl)]
      rfl
    · have e : fins kl2 left out (j : Nat) = kl2 (out ++ [left.getD j 0]) (left.take j ++ left.drop (j + 1)) := by
        unfold fins
        rw [if_neg (by omega), Int.toNat_natCast]
      rw [e, iff_ (df (by omega)), if_pos ⟨by omega, by omega⟩, if_pos (by simp; omega), if_pos ⟨by omega, by omega⟩, w64s (by omega)]
      simp only [Int.toNat_natCast, List.nil_append]
      rw [if_pos (by simp; omega), if_pos ⟨by omega, by omega⟩, if_pos (by simp; omega)]
  | succ d ih =>
    intro k i y hi hk hil hbest
    obtain ⟨k, rfl⟩ : ∃ q, k = q + 1 := ⟨k - 1, by omega⟩
    have hlt : i < left.length := by omega
    have hg : left.getD i 0 = left[i] := by rw [List.getD_eq_getElem?_getD, List.getElem?_eq_getElem hlt]; rfl
    have hy : y < (left.length : Int) := by
      rcases hbest with ⟨rfl, _⟩ | ⟨j, hj, rfl, _, _⟩ <;> omega
    have hfree := free_is he hb hl (Order.l3 k kl2 left l0 l1 out) hlt hy l0.length k 0 true (by omega) (by omega)
    have hfree' : Order.l4 k (Order.l3 k kl2 left l0 l1 out) l0 (i : Int) left l1 y true 0 = _ := hfree
    rw [Order.l3, ift (dt (by omega)), hfree', List.drop_zero, Bool.true_and]
    have hfr : ((l0.zip l1).all fun p => p.1 != left[i] || !(decide (p.2 ∈ left))) = fre (l0.zip l1) left (left.getD i 0) := by rw [hg]; rfl
    rw [hfr]
    unfold fin
    by_cases hf : fre (l0.zip l1) left (left.getD i 0) = true
    · rw [ift hf]
      rcases hbest with ⟨rfl, hno⟩ | ⟨j, hj, rfl, h1, h2⟩
      · rw [if_pos (by decide)]
        refine ih k (i + 1) i (by omega) (by omega) (by omega) (.inr ⟨i, by omega, rfl, hf, fun q hq hfq => ?_⟩)
        by_cases hqi : q = i
        · subst hqi; exact Int.le_refl _
        · rw [hno q (by omega)] at hfq; cases hfq
      · rw [if_neg (by omega), Int.toNat_natCast]
        by_cases hlt2 : left.getD i 0 < left.getD j 0
        · rw [if_pos hlt2]
          refine ih k (i + 1) i (by omega) (by omega) (by omega) (.inr ⟨i, by omega, rfl, hf, fun q hq hfq => ?_⟩)
          by_cases hqi : q = i
          · subst hqi; exact Int.le_refl _
          · have := h2 q (by omega) hfq; omega
        · rw [if_neg hlt2]
          refine ih k (i + 1) j (by omega) (by omega) (by omega) (.inr ⟨j, by omega, rfl, h1, fun q hq hfq => ?_⟩)
          by_cases hqi : q = i
          · subst hqi; omega
          · exact h2 q (by omega) hfq
    · have hf0 : fre (l0.zip l1) left (left.getD i 0) = false := by simpa using hf
      rw [if_neg hf]
      refine ih k (i + 1) y (by omega) (by omega) (by omega) ?_
      rcases hbest with ⟨rfl, hno⟩ | ⟨j, hj, rfl, h1, h2⟩
      · refine .inl ⟨rfl, fun q hq => ?_⟩
        by_cases hqi : q = i
        · subst hqi; exact hf0
        · exact hno q (by omega)
      · refine .inr ⟨j, by omega, rfl, h1, fun q hq hfq => ?_⟩
        by_cases hqi : q = i
        · subst hqi; rw [hf0] at hfq; cases hfq
        · exact h2 q (by omega) hfq
theorem main_is {l0 l1 : List Int} (he : l0.length = l1.length) (hb : l0.length ≤ 40) : ∀ (n k : Nat) (left lS out : List Int), left.length = n → left.length + out.length ≤ 80 → n + 1000 < k → left.Perm lS → lS.Pairwise (· < ·) → (∀ y, nodeOf (l0.zip l1) y → (y ∈ out ↔ y ∉ left)) → (∀ x ∈ left, nodeOf (l0.zip l1) x) →
    Order.l2 k l0 l1 out left = some ((ordGo (l0.zip l1) n lS out).getD [], (ordGo (l0.zip l1) n lS out).isSome) := by
  intro n
  induction n with
  | zero =>
    intro k left lS out hn hs hk hp hsort hnode hin
    obtain ⟨k, rfl⟩ : ∃ q, k = q + 1 := ⟨k - 1, by omega⟩
    have h0 : left = [] := List.eq_nil_of_length_eq_zero hn
    subst h0
    have h1 : lS = [] := hp.nil_eq.symm
    subst h1
    rw [Order.l2, iff_ (df (by simp))]
    rfl
  | succ n ih =>
    intro k left lS out hn hs hk hp hsort hnode hin
    obtain ⟨k, rfl⟩ : ∃ q, k = q + 1 := ⟨k - 1, by omega⟩
    have hSl : lS.length = n + 1 := by rw [← hp.length_eq]; exact hn
    have hne : lS ≠ [] := fun e => by rw [e] at hSl; simp at hSl
    have hfe : ∀ x ∈ left, freeAt (l0.zip l1) out x = fre (l0.zip l1) left x := fun x hx => bool_ext (by
      rw [freeAt_iff, fre_iff]
      constructor
      · intro h p hp e
        have := h p.2 (by rw [← e]; exact hp)
        exact (hnode p.2 ⟨p, hp, .inr rfl⟩).1 this
      · intro h y hy
        exact (hnode y ⟨_, hy, .inr rfl⟩).2 (h _ hy rfl))
    obtain ⟨z, hz, hgo⟩ := least_is (left := left) (out := out) he hb (by omega) (by omega) (Order.l2 k l0 l1) left.length k 0 (-1) (by omega) (by omega) (by omega) (.inl ⟨rfl, fun j hj => by omega⟩)
    rw [Order.l2, ift (dt (by omega))]
    have hgo' : Order.l3 k (Order.l2 k l0 l1) left l0 l1 out (-1) 0 = fins (Order.l2 k l0 l1) left out z := hgo
    rw [hgo']
    unfold fins
    rw [ordGo, if_neg hne]
    rcases hz with ⟨rfl, hno⟩ | ⟨j, hj, rfl, h1, h2⟩
    · have hnone : lS.find? (freeAt (l0.zip l1) out) = none := by
        rw [List.find?_eq_none]
        intro x hx
        have hxl := hp.mem_iff.2 hx
        obtain ⟨q, hq, rfl⟩ := List.getElem_of_mem hxl
        have := hno q hq
        rw [List.getD_eq_getElem?_getD, List.getElem?_eq_getElem hq] at this
        rw [hfe _ hxl]
        simpa using this
      rw [if_pos (by decide), hnone]
      rfl
    · have hg : left.getD j 0 = left[j] := by rw [List.getD_eq_getElem?_getD, List.getElem?_eq_getElem hj]; rfl
      have hjm : left[j] ∈ left := List.getElem_mem hj
      have hsome : lS.find? (freeAt (l0.zip l1) out) = some left[j] := by
        cases hf : lS.find? (freeAt (l0.zip l1) out) with
        | none =>
          rw [List.find?_eq_none] at hf
          have := hf left[j] (hp.mem_iff.1 hjm)
          rw [hfe _ hjm, ← hg, h1] at this
          exact absurd rfl this
        | some x =>
          have hx := List.mem_of_find?_eq_some hf
          have hxp := List.find?_some hf
          have hxl := hp.mem_iff.2 hx
          have a1 := find_least hsort hf left[j] (hp.mem_iff.1 hjm) (by rw [hfe _ hjm, ← hg, h1])
          obtain ⟨q, hq, hqx⟩ := List.getElem_of_mem hxl
          have hgq : left.getD q 0 = x := by rw [List.getD_eq_getElem?_getD, List.getElem?_eq_getElem hq]; exact hqx
          have a2 := h2 q hq (by rw [hgq, ← hfe _ hxl]; exact hxp)
          rw [hgq, hg] at a2
          rw [show x = left[j] by omega]
      rw [if_neg (by omega), hsome, Int.toNat_natCast, hg]
      have hpl : left.Perm (left[j] :: (left.take j ++ left.drop (j + 1))) := by
        have e : left = left.take j ++ left[j] :: left.drop (j + 1) := by rw [List.getElem_cons_drop]; exact (List.take_append_drop j left).symm
        conv => lhs; rw [e]
        exact List.perm_middle
      have hpS : lS.Perm (left[j] :: lS.erase left[j]) := List.perm_cons_erase (hp.mem_iff.1 hjm)
      have hp2 : (left.take j ++ left.drop (j + 1)).Perm (lS.erase left[j]) := (List.perm_cons _).1 ((hpl.symm.trans hp).trans hpS)
      have hnd : left.Nodup := hp.nodup_iff.2 (hsort.imp fun hab e => by omega)
      have hnd2 := hpl.nodup_iff.1 hnd
      rw [List.nodup_cons] at hnd2
      refine ih k _ _ _ (by simp; omega) (by simp; omega) (by omega) hp2 (hsort.sublist (List.erase_sublist)) (fun y hy => ?_) (fun x hx => hin x (hpl.mem_iff.2 (List.mem_cons_of_mem _ hx)))
      have h3 := hnode y hy
      have h4 : y ∈ left ↔ y = left[j] ∨ y ∈ left.take j ++ left.drop (j + 1) := by rw [hpl.mem_iff, List.mem_cons]
      rw [List.mem_append (t := [left[j]]), List.mem_singleton, h3]
      constructor
      · rintro (h | rfl) hin2
        · exact h (h4.2 (.inr hin2))
        · exact hnd2.1 hin2
      · intro h
        by_cases e : y = left[j]
        · exact .inr e
        · exact .inl fun hyl => (h4.1 hyl).elim e h
theorem order_is {l0 l1 : List Int} (hb : l0.length ≤ 40) (hb1 : l1.length ≤ 40) {k : Nat} (hk : 2000 < k) : Order.f k l0 l1 = some ((ordR l0 l1).getD [], (ordR l0 l1).isSome) := by
  unfold Order.f ordR
  by_cases he : l0.length = l1.length
  · have hzl : (l0.zip l1).length ≤ 40 := by rw [List.length_zip]; omega
    have hfl := fold_len (l0.zip l1) []
    have hperm : ((l0.zip l1).foldl ins2 []).Perm (nds (l0.zip l1)) := by
      rw [List.perm_ext_iff_of_nodup (fold_nodup _ _ List.nodup_nil) ((nds_sorted _).imp fun hab e => by omega)]
      intro x
      rw [nds_mem, fold_mem]
      constructor
      · rintro (h | ⟨p, h1, h2⟩)
        · cases h
        · exact ⟨p, h1, h2.imp Eq.symm Eq.symm⟩
      · rintro ⟨p, h1, h2⟩
        exact .inr ⟨p, h1, h2.imp Eq.symm Eq.symm⟩
    have hbuild := refb_is he hb l0.length k 0 [] (by omega) (by simp) (by omega)
    rw [List.drop_zero] at hbuild
    have hln := hperm.length_eq
    rw [iff_ (by simp [he]), if_pos he, ordF_nds]
    have hbuild' : Order.l1 k l0 l1 [] 0 = _ := hbuild
    rw [hbuild', ← hln]
    simp only [List.length_nil] at hfl
    refine main_is he hb _ _ _ _ _ rfl (by simp; omega) (by omega) hperm (nds_sorted _) (fun y hy => ?_) (fun x hx => ?_)
    · constructor
      · intro h; cases h
      · intro h; exact absurd ((hperm.mem_iff).2 (nds_mem.2 hy)) h
    · exact nds_mem.1 (hperm.mem_iff.1 hx)
  · rw [ift (by simp; omega), if_neg he]
    rfl
theorem ordR_len {l0 l1 : List Int} (hb : l0.length ≤ 40) : ((ordR l0 l1).getD []).length ≤ 100000 := by
  unfold ordR
  split
  · cases h : ordF (l0.zip l1) with
    | none => simp
    | some l =>
      have ho := Ord.of h
      have hsub : l.Perm (nds (l0.zip l1)) := by
        rw [List.perm_ext_iff_of_nodup ho.nodup ((nds_sorted _).imp fun hab e => by omega)]
        intro x
        rw [ho.mem, nds_mem]
      have hperm : ((l0.zip l1).foldl ins2 []).Perm (nds (l0.zip l1)) := by
        rw [List.perm_ext_iff_of_nodup (fold_nodup _ _ List.nodup_nil) ((nds_sorted _).imp fun hab e => by omega)]
        intro x
        rw [nds_mem, fold_mem]
        constructor
        · rintro (h | ⟨p, h1, h2⟩)
          · cases h
          · exact ⟨p, h1, h2.imp Eq.symm Eq.symm⟩
        · rintro ⟨p, h1, h2⟩
          exact .inr ⟨p, h1, h2.imp Eq.symm Eq.symm⟩
      have h1 := hsub.length_eq
      have h2 := hperm.length_eq
      have h3 := fold_len (l0.zip l1) []
      have h4 : (l0.zip l1).length ≤ 40 := by rw [List.length_zip]; omega
      simp only [List.length_nil] at h3
      show l.length ≤ _
      omega
  · simp
theorem RingsOrder_pure (l0 : List Int) (l1 : List Int) (hy0 : l0.length ≤ 140737488351232) (v0 : ∀ n ∈ l0, (Lit.int .u32 n).wf = true) (hy1 : l1.length ≤ 140737488351232) (v1 : ∀ n ∈ l1, (Lit.int .u32 n).wf = true) : ∃ k, RingsOrder.f k l0 l1 = some true := by
  refine ⟨200000, ?_⟩
  unfold RingsOrder.f
  by_cases hb : l0.length ≤ 40
  · rw [iff_ (df (by omega))]
    by_cases hb1 : l1.length ≤ 40
    · have hl := ordR_len (l1 := l1) hb
      rw [iff_ (df (by omega)), if_pos (by omega), if_pos (by omega), if_pos (by omega), lt_is rfl, if_pos (by omega), lt_is rfl, order_is hb hb1 (by decide), Option.bind_some, same_is _ hl (by omega), Option.bind_some, iff_ (by rfl), Option.bind_some, iff_ (by rfl), iff_ (by simp), if_pos (by omega), if_pos (by omega), if_pos ⟨by omega, by decide⟩, if_pos ⟨by omega, by decide⟩, if_pos ⟨by omega, by decide⟩, if_pos ⟨by omega, by decide⟩]
    · rw [ift (dt (by omega))]
  · rw [ift (dt (by omega))]
end Go.Proofs.YticnjkdaccacaaaGreatDoor.Pl
end
section
/- RingsOrder walked: over its walk and its plain law. -/
namespace Go.Proofs.YticnjkdaccacaaaGreatDoor.Pl
open Go Go.RowKit Sx Base Own

theorem RingsOrder_law (A0 : Option Addr) (c0 : Nat) (l0 : List Int) (A1 : Option Addr) (c1 : Nat) (l1 : List Int) (W : World) (hc0 : l0.length ≤ c0) (hm0 : c0 ≤ maxLen) (hy0 : l0.length ≤ 140737488351232) (v0 : ∀ n ∈ l0, (Lit.int .u32 n).wf = true) (hr0 : Rd .u32 W A0 l0) (hc1 : l1.length ≤ c1) (hm1 : c1 ≤ maxLen) (hy1 : l1.length ≤ 140737488351232) (v1 : ∀ n ∈ l1, (Lit.int .u32 n).wf = true) (hr1 : Rd .u32 W A1 l1) : Calls Tryz.prog 6 #[(.slice A0 l0.length c0), (.slice A1 l1.length c1)] W fun e w' => e = .returned (.bool true) ∧ Below W.heap.size W w' := by
  obtain ⟨k, hk⟩ := RingsOrder_pure l0 l1 hy0 v0 hy1 v1
  exact (RingsOrder.walk k A0 c0 l0 A1 c1 l1 ⟨hr0, v0⟩ ⟨hc0, hm0⟩ ⟨hr1, v1⟩ ⟨hc1, hm1⟩ (Sat.start W) hk).mono fun e w' ⟨h1, _, h3⟩ => ⟨h1, h3.below⟩
end Go.Proofs.YticnjkdaccacaaaGreatDoor.Pl
end
section
/- The row of RingsOrder, over its walk. -/
namespace Go.Proofs.YticnjkdaccacaaaGreatDoor.ringsOrder
open Go.ChangeShapes Go.WideShapes Go.ChangeAt Go.RowKit Base
open Go.ChangeMaps (open_string shut_string)
theorem own : ownKnob Tryz.prog.godebug = none := by kernel_rfl
theorem laidOut : laidOutB Tryz.prog = true := by kernel_rfl
def laidL : List (String × DataW Unit) := [("math/bits.deBruijn32tab", Rows.laid_math_bits_deBruijn32tab), ("math/bits.deBruijn64tab", Rows.laid_math_bits_deBruijn64tab), ("internal/strconv.uint64pow10", Rows.laid_internal_strconv_uint64pow10)]
set_option maxRecDepth 100000 in
theorem door_met (os : Os) (args : Array Value) : laidMetH Tryz.prog laidL ((World.doorLaid Tryz.prog 400 os).forCall (fun _ _ => 0) ⟨#[], args, []⟩).memory :=
  laidMetH_of_parts3 (fuel := 8) (laidMet_of_run' 8 (by kernel_rfl) (by kernel_rfl)) (by kernel_rfl) (by kernel_rfl)
set_option maxRecDepth 100000 in
theorem lifted (os : Os) (started : os.Started) (H : Type) (enc : TypeId × Value → H) :
    ReturnsInHanded {} Tryz.checked os 6 .any (fun w args => (Rows.ringsOrderSpec.pre enc Tryz.prog Tryz.f6 [] false w args ∧ laidMetH Tryz.prog laidL w) ∧ sizedMet enc Tryz.prog Tryz.f6 (OpenSpec.ofChange Rows.ringsOrderSpec) false w args) (Rows.ringsOrderSpec.post enc Tryz.prog Tryz.f6 false true false false) := by
  refine returnsInHanded_of_change_and (C := Tryz.checked) (X := fun w _ => laidMetH Tryz.prog laidL w) (fun _ _ _ hh h => h.of_heap hh) own started (by kernel_rfl) Tryz.func6
    (ChangeSpec.witness_shaped (enc := enc) (C := Tryz.checked) (os := os) (X := fun w _ => laidMetH Tryz.prog laidL w) false (World.doorLaid Tryz.prog 400 os) #[.slice none 0 0, .slice none 0 0] 8 rfl (World.shaped_of_RefB (by kernel_rfl) (by kernel_rfl)) (by kernel_rfl) (by kernel_rfl) (by kernel_rfl) (door_met os _)) ?_
  intro W base args ds gs before hval0 hW hcnd hsz0 _ _
  have hsz : (DataW.weightsEach Tryz.prog (Tryz.f6.params.toList ++ Rows.ringsOrderSpec.plain.varTypes Tryz.prog) (ds ++ gs)).all (· ≤ reachBytes) = true := hsz0
  have hval : ∀ (j : Nat) t v, Tryz.f6.params[j]? = some t → args[j]? = some v → Value.okWide Tryz.prog W .any base t v := hval0
  have hW' := hW
  obtain ⟨p, q, hA0, hV, rfl, hfz, hnd⟩ := hW
  have hA : DataW.TrodAll enc Tryz.prog W 0 (fun _ => true) true Tryz.f6.params.toList args.toList ds p := hA0
  rw [Tryz.params6] at hA hval hsz
  obtain ⟨v0, vs0, d0, ds0, p0, q0, hargs, rfl, rfl, h0, r0⟩ := trodAll_cons hA
  obtain ⟨v1, vs1, d1, ds1, p1, q1, rfl, rfl, rfl, h1, r1⟩ := trodAll_cons r0
  obtain ⟨rfl, rfl, rfl⟩ := trodAll_nil r1
  obtain rfl : args = #[v0, v1] := by cases args; simp_all
  obtain ⟨rfl, rfl⟩ := trodVars_none hV
  obtain ⟨a0, len0, cap0, rfl⟩ := okWide_slice Tryz.underlying91 (hval 0 91 v0 rfl rfl)
  have k0 := h0
  have lt0 : ∀ x ∈ p0, x.block < W.heap.size := by obtain ⟨m, hm⟩ := k0; exact DataW.trod_lt m _ _ _ hm
  obtain ⟨z0, w0⟩ : ∃ zs, IsRow .u32 W a0 len0 cap0 zs := by
    obtain ⟨fuel, hf⟩ := h0
    rcases open_ints Tryz.underlying91 Tryz.underlying86 (by kernel_rfl) hf with ⟨hcs, _⟩ | ⟨x, l, c, zs, hcs, _, hl, hm, hz, _, hcell, hwz⟩
    · simp [Value.cells] at hcs
      obtain ⟨rfl, rfl, rfl⟩ := hcs
      exact ⟨[], .inl ⟨rfl, rfl, rfl, rfl⟩⟩
    · simp [Value.cells] at hcs
      obtain ⟨rfl, rfl, rfl⟩ := hcs
      exact ⟨zs, .inr ⟨_, rfl, hl, hm, by simpa using hz, hcell, hwz⟩⟩
  have y0 : len0 ≤ 140737488351232 := sized_row hsz (j := 0) (t := 91) (B := 4) rfl rfl Tryz.underlying91 Tryz.underlying86 (by kernel_rfl) (by kernel_rfl) (by decide) h0
  obtain ⟨l0, rfl, c0, m0, f0, g0⟩ := w0.reads
  obtain ⟨a1, len1, cap1, rfl⟩ := okWide_slice Tryz.underlying91 (hval 1 91 v1 rfl rfl)
  have k1 := h1
  have lt1 : ∀ x ∈ p1, x.block < W.heap.size := by obtain ⟨m, hm⟩ := k1; exact DataW.trod_lt m _ _ _ hm
  obtain ⟨z1, w1⟩ : ∃ zs, IsRow .u32 W a1 len1 cap1 zs := by
    obtain ⟨fuel, hf⟩ := h1
    rcases open_ints Tryz.underlying91 Tryz.underlying86 (by kernel_rfl) hf with ⟨hcs, _⟩ | ⟨x, l, c, zs, hcs, _, hl, hm, hz, _, hcell, hwz⟩
    · simp [Value.cells] at hcs
      obtain ⟨rfl, rfl, rfl⟩ := hcs
      exact ⟨[], .inl ⟨rfl, rfl, rfl, rfl⟩⟩
    · simp [Value.cells] at hcs
      obtain ⟨rfl, rfl, rfl⟩ := hcs
      exact ⟨zs, .inr ⟨_, rfl, hl, hm, by simpa using hz, hcell, hwz⟩⟩
  have y1 : len1 ≤ 140737488351232 := sized_row hsz (j := 1) (t := 91) (B := 4) rfl rfl Tryz.underlying91 Tryz.underlying86 (by kernel_rfl) (by kernel_rfl) (by decide) h1
  obtain ⟨l1, rfl, c1, m1, f1, g1⟩ := w1.reads
  clear hA0 hval0 hsz0 hsz
  refine (Pl.RingsOrder_law a0 cap0 l0 a1 cap1 l1 W c0 m0 y0 f0 g0 c1 m1 y1 f1 g1).mono fun e W' ⟨he, bel⟩ => ?_
  subst he
  exact ⟨_, rfl, _, _, _, [], _, [], hW', trodAll_mk1 (shut_bool Tryz.underlying4 _), (trodAll_cons_mk (Below.trod laidOut (by kernel_rfl) (of_decide_eq_true (by kernel_rfl)) k0 bel lt0) (trodAll_cons_mk (Below.trod laidOut (by kernel_rfl) (of_decide_eq_true (by kernel_rfl)) k1 bel lt1) trodAll_mk0)), rfl, bel.frame _, fun h => by cases h⟩
theorem over : Rows.ringsOrderRow.holds Tryz.pinned (OpenSpec.ofChange Rows.ringsOrderSpec) :=
  OpenClaim.holds_of_wide 6 Tryz.f6 rfl rfl rfl rfl rfl rfl rfl ⟨rfl, rfl, rfl, rfl, rfl⟩ rfl rfl rfl rfl rfl (by kernel_rfl) Tryz.func6 (by kernel_rfl)
    (of_decide_eq_true (by kernel_rfl)) (by unfold Func.isWrapper; first | (rw [if_pos (by decide +kernel)]; kernel_rfl) | (rw [if_neg (by decide +kernel)]; exact ⟨rfl, rfl⟩))
    (fun os started H enc _ => lifted os started H enc)
theorem proved : Rows.RingsOrderSaid := over
set_option maxRecDepth 100000 in
theorem card : Rows.RingsOrderCardSaid :=
  Claim7.holds_tied_plain_at .later [] [.data, .data, .data] true (true, "8e1b67c097ab7e9fdbceefeba192b3f8650cecfb9c5951a071061954cdfc76dd") false
    over (fun _ h => by cases h) (by kernel_rfl) (fun _ h => by cases h) ringsOrder_row_tie rfl ⟨rfl, rfl⟩ (by kernel_rfl) rfl
    (fun f fn hf hfn => by
      obtain rfl : f = 6 := Option.some.inj ((show Tryz.prog.funcNamed "concordat/concordatlaw12.RingsOrder" = some 6 by kernel_rfl).symm.trans hf) |>.symm
      obtain rfl : fn = Tryz.f6 := (Option.some.inj (Tryz.func6.symm.trans hfn)).symm
      exact ⟨by kernel_rfl, fun j t ht => by
        rw [Tryz.params6] at ht
        have hm : t ∈ [91, 91] := by simpa using Array.mem_of_getElem? ht
        have hall : ([91, 91].all fun u => !Tryz.prog.wantsStandIn u) = true := by kernel_rfl
        exact (show Tryz.prog.wantsStandIn t = false by simpa using List.all_eq_true.1 hall t hm)⟩)
    (by kernel_rfl)
end Go.Proofs.YticnjkdaccacaaaGreatDoor.ringsOrder
namespace Go.Proofs.YticnjkdaccacaaaGreatDoor
/-- The tied card, under a short name, for the claim. -/
theorem ringsOrder_holds : Rows.RingsOrderCardSaid := ringsOrder.card
#print axioms ringsOrder_holds
end Go.Proofs.YticnjkdaccacaaaGreatDoor
end
