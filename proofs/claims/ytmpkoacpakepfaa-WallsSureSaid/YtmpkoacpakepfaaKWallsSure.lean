/- Walks over the program's functions, printed by a program of this work (wip/tools/shal.py): each call does what the plain function says. -/
import Derived.Test.YtmpkoacpakepfaaProg
import Derived.Test.YtmpkoacpakepfaaRk
import Derived.Test.YtmpkoacpakepfaaPool
import Derived.Test.YtmpkoacpakepfaaSo
import Derived.Test.YtmpkoacpakepfaaDWallsSure
namespace Go.Proofs.Ytmpkoacpakepfaa.Pl
open Go Go.RowKit Sx Base Own Disk Bytes

def orc : Orc := ⟨[(3, .int .i64), (5, .int .u8), (9, .string), (22, .slice 5), (34, .slice 22), (42, .int .u64), (44, .struct #[Go.Field.mk "L" 34 0 false "" "" 0, Go.Field.mk "Forced" 5 1 false "" "" 24, Go.Field.mk "Keep" 42 2 false "" "" 32, Go.Field.mk "Torn" 5 3 false "" "" 40])],
  [(5, 1), (22, 1), (34, 1), (42, 1)]⟩
theorem orc_ok : orc.Ok Try.prog := ⟨⟨Try.underlying3, Try.underlying5, Try.underlying9, Try.underlying22, Try.underlying34, Try.underlying42, Try.underlying44, trivial⟩, ⟨by kernel_rfl, by kernel_rfl, by kernel_rfl, by kernel_rfl, trivial⟩⟩
theorem en11 : Enters Try.prog 11 := fun _ _ => by kernel_rfl
theorem en12 : Enters Try.prog 12 := fun _ _ => by kernel_rfl
theorem en13 : Enters Try.prog 13 := fun _ _ => by kernel_rfl
theorem en14 : Enters Try.prog 14 := fun _ _ => by kernel_rfl
theorem en15 : Enters Try.prog 15 := fun _ _ => by kernel_rfl
theorem en16 : Enters Try.prog 16 := fun _ _ => by kernel_rfl
theorem en17 : Enters Try.prog 17 := fun _ _ => by kernel_rfl
theorem en18 : Enters Try.prog 18 := fun _ _ => by kernel_rfl
theorem en19 : Enters Try.prog 19 := fun _ _ => by kernel_rfl
theorem en20 : Enters Try.prog 20 := fun _ _ => by kernel_rfl
theorem lit22 : RowTy Try.prog 22 5 .u8 := ⟨Try.underlying22, 1, by decide, by kernel_rfl⟩
set_option maxRecDepth 100000 in
set_option maxHeartbeats 4000000 in
theorem alive.walk  {w0 w : World} {R : List Asn}  (S : Sat w0 w R) {r : Bool} (h : alive.f = some r) :
    Calls Try.prog 15 #[] w fun e w' => e = .returned (.bool r) ∧ vok (.bool r) = true ∧ Sat w0 w' R := by
  have key : ∀ w0 : World, w0 = w → Sat w0 w [] → Calls Try.prog 15 #[] w fun e w' => e = .returned (.bool r) ∧ vok (.bool r) = true ∧ Sat w0 w' [] := by
    clear S
    intro w0 hw S
    clear hw
    unfold alive.f at h
    refine calls_start (N := 135) [] Try.func15 rfl rfl rfl rfl fun a fr => ?_
    refine wp_seq ?_
    refine wp_region_lit ?_
    refine wl_run orc_ok 1 rfl fr fun a fr => ?_
    refine wpList_nil ?_
    refine then_n ?_
    refine wp_seq ?_
    refine wp_region_lit ?_
    have hc : (1 ≤ (4 : Int) ∧ (4 : Int) ≤ (4096 : Int)) := by decide
    refine wl_call fr rfl rfl rfl rfl en17 (disk_new S hc) ?_
    rintro _ w ⟨g1, rfl, S⟩
    refine ⟨_, rfl, rfl, fun a fr => ?_⟩
    refine wl_run orc_ok 5 rfl fr fun a fr => ?_
    refine wpList_nil ?_
    refine then_n ?_
    refine wp_seq ?_
    refine wp_region_lit ?_
    refine wl_run orc_ok 1 rfl fr fun a fr => ?_
    obtain ⟨hc, h⟩ := ifs h
    obtain ⟨p2, hn0, h⟩ := lt_h h
    obtain ⟨x3, hn1, h⟩ := lt_h h
    obtain ⟨D4, hn2, h⟩ := lt_h h
    have H := open_call S hc
    rw [hn0, hn1, hn2] at H
    refine wl_call fr rfl rfl rfl rfl en14 H ?_
    clear H
    rintro _ w ⟨g7, A5, c6, rfl, hv, S⟩
    refine ⟨_, rfl, hv, fun a fr => ?_⟩
    refine wl_run orc_ok 7 rfl fr fun a fr => ?_
    refine wpList_nil ?_
    refine then_n ?_
    refine wp_seq ?_
    refine wp_seq ?_
    refine wp_region_lit ?_
    refine wl_run orc_ok 8 rfl fr fun a fr => ?_
    refine wl_split 31 fr rfl h (fun fr h => ?_) (fun fr h => ?_)
    · refine wl_run orc_ok 45 rfl fr fun a fr => ?_
      refine wpList_nil ?_
      refine then_n ?_
      refine cw_t fr rfl ?_
      refine wp_seq ?_
      refine wp_region_lit ?_
      refine wl_run orc_ok 1 rfl fr fun a fr => ?_
      refine wpList_nil ?_
      refine then_n ?_
      refine wp_ret ?_
      refine then_r ?_
      injection h with h
      subst h
      refine ret1 fr rfl rfl ?_
      exact ⟨rfl, fr.vok (d := 0) rfl, S.mask [false, false, false]⟩
    · refine wl_run orc_ok 1 rfl fr fun a fr => ?_
      refine wl_litc (xs := [(97 : Int)]) lit22 Try.underlying5 fr rfl rfl rfl rfl rfl rfl rfl rfl ⟨rfl, rfl, trivial⟩ rfl rfl rfl S ?_
      intro w A9 c10 rq8 mq8 S a fr
      have S : Sat w0 _ [diskA g1 D4, logA g7 g1 x3, recsA .u8 22 5 A5 c6 p2] := S.frontAt 2 rfl
      have S : Sat w0 _ [logA g7 g1 x3, diskA g1 D4, recsA .u8 22 5 A5 c6 p2] := S.frontAt 1 rfl
      obtain ⟨hc, h⟩ := ifs h
      obtain ⟨y11, hn0, h⟩ := lt_h h
      obtain ⟨x12, hn1, h⟩ := lt_h h
      obtain ⟨D13, hn2, h⟩ := lt_h h
      have H := add_callI (A := A9) (c := c10) (l := [(97 : Int)]) S rq8 (fr.slice (d := 34) rfl) hc
      rw [hn0, hn1, hn2] at H
      refine wl_call fr rfl rfl rfl rfl en11 H ?_
      clear H
      rintro _ w ⟨rfl, hv, S⟩
      refine ⟨_, rfl, hv, fun a fr => ?_⟩
      refine wl_run orc_ok 3 rfl fr fun a fr => ?_
      refine wl_split 38 fr rfl h (fun fr h => ?_) (fun fr h => ?_)
      · refine wl_run orc_ok 38 rfl fr fun a fr => ?_
        refine wpList_nil ?_
        refine then_n ?_
        refine cw_t fr rfl ?_
        refine wp_seq ?_
        refine wp_region_lit ?_
        refine wl_run orc_ok 1 rfl fr fun a fr => ?_
        refine wpList_nil ?_
        refine then_n ?_
        refine wp_ret ?_
        refine then_r ?_
        injection h with h
        subst h
        refine ret1 fr rfl rfl ?_
        exact ⟨rfl, fr.vok (d := 0) rfl, S.mask [false, false, false]⟩
      · refine wl_run orc_ok 1 rfl fr fun a fr => ?_
        obtain ⟨hc, h⟩ := ifs h
        refine wl_make lit22 fr rfl rfl rfl rfl rfl rfl hc S ?_
        intro w A14 c15 S
        intro a fr
        have S : Sat w0 _ [diskA g1 D13, ownA .u8 5 A14 c15 (List.replicate (Int.toNat (100 : Int)) (0 : Int)), logA g7 g1 x12, recsA .u8 22 5 A5 c6 p2] := S.frontAt 2 rfl
        have S : Sat w0 _ [logA g7 g1 x12, diskA g1 D13, ownA .u8 5 A14 c15 (List.replicate (Int.toNat (100 : Int)) (0 : Int)), recsA .u8 22 5 A5 c6 p2] := S.frontAt 2 rfl
        obtain ⟨hc, h⟩ := ifs h
        obtain ⟨y16, hn0, h⟩ := lt_h h
        obtain ⟨x17, hn1, h⟩ := lt_h h
        obtain ⟨D18, hn2, h⟩ := lt_h h
        have H := add_callI (A := A14) (c := c15) (l := (List.replicate (Int.toNat (100 : Int)) (0 : Int))) S (Sat.ownAt S 2 rfl) (fr.slice (d := 40) rfl) hc
        rw [hn0, hn1, hn2] at H
        refine wl_call fr rfl rfl rfl rfl en11 H ?_
        clear H
        rintro _ w ⟨rfl, hv, S⟩
        refine ⟨_, rfl, hv, fun a fr => ?_⟩
        refine wl_run orc_ok 3 rfl fr fun a fr => ?_
        refine wl_split 44 fr rfl h (fun fr h => ?_) (fun fr h => ?_)
        · refine wl_run orc_ok 32 rfl fr fun a fr => ?_
          refine wpList_nil ?_
          refine then_n ?_
          refine cw_t fr rfl ?_
          refine wp_seq ?_
          refine wp_region_lit ?_
          refine wl_run orc_ok 1 rfl fr fun a fr => ?_
          refine wpList_nil ?_
          refine then_n ?_
          refine wp_ret ?_
          refine then_r ?_
          injection h with h
          subst h
          refine ret1 fr rfl rfl ?_
          exact ⟨rfl, fr.vok (d := 0) rfl, S.mask [false, false, false, false]⟩
        · refine wl_run orc_ok 1 rfl fr fun a fr => ?_
          have S : Sat w0 _ [diskA g1 D18, logA g7 g1 x17, ownA .u8 5 A14 c15 (List.replicate (Int.toNat (100 : Int)) (0 : Int)), recsA .u8 22 5 A5 c6 p2] := S.frontAt 1 rfl
          have S : Sat w0 _ [logA g7 g1 x17, diskA g1 D18, ownA .u8 5 A14 c15 (List.replicate (Int.toNat (100 : Int)) (0 : Int)), recsA .u8 22 5 A5 c6 p2] := S.frontAt 1 rfl
          obtain ⟨hc, h⟩ := ifs h
          obtain ⟨y19, hn0, h⟩ := lt_h h
          have H := room_call S hc (show (Lit.int .i64 (56 : Int)).wf = true by decide)
          rw [hn0] at H
          refine wl_call fr rfl rfl rfl rfl en13 H ?_
          clear H
          rintro _ w ⟨rfl, S⟩
          refine ⟨_, rfl, rfl, fun a fr => ?_⟩
          refine wl_run orc_ok 3 rfl fr fun a fr => ?_
          refine wl_split 49 fr rfl h (fun fr h => ?_) (fun fr h => ?_)
          · refine wl_run orc_ok 27 rfl fr fun a fr => ?_
            refine wpList_nil ?_
            refine then_n ?_
            refine cw_t fr rfl ?_
            refine wp_seq ?_
            refine wp_region_lit ?_
            refine wl_run orc_ok 1 rfl fr fun a fr => ?_
            refine wpList_nil ?_
            refine then_n ?_
            refine wp_ret ?_
            refine then_r ?_
            injection h with h
            subst h
            refine ret1 fr rfl rfl ?_
            exact ⟨rfl, fr.vok (d := 0) rfl, S.mask [false, false, false, false]⟩
          · refine wl_run orc_ok 1 rfl fr fun a fr => ?_
            have S : Sat w0 _ [diskA g1 D18, logA g7 g1 x17, ownA .u8 5 A14 c15 (List.replicate (Int.toNat (100 : Int)) (0 : Int)), recsA .u8 22 5 A5 c6 p2] := S.frontAt 1 rfl
            have S : Sat w0 _ [logA g7 g1 x17, diskA g1 D18, ownA .u8 5 A14 c15 (List.replicate (Int.toNat (100 : Int)) (0 : Int)), recsA .u8 22 5 A5 c6 p2] := S.frontAt 1 rfl
            obtain ⟨hc, h⟩ := ifs h
            obtain ⟨y20, hn0, h⟩ := lt_h h
            have H := room_call S hc (show (Lit.int .i64 (57 : Int)).wf = true by decide)
            rw [hn0] at H
            refine wl_call fr rfl rfl rfl rfl en13 H ?_
            clear H
            rintro _ w ⟨rfl, S⟩
            refine ⟨_, rfl, rfl, fun a fr => ?_⟩
            refine wl_run orc_ok 2 rfl fr fun a fr => ?_
            refine wl_split 53 fr rfl h (fun fr h => ?_) (fun fr h => ?_)
            · refine wl_run orc_ok 23 rfl fr fun a fr => ?_
              refine wpList_nil ?_
              refine then_n ?_
              refine cw_t fr rfl ?_
              refine wp_seq ?_
              refine wp_region_lit ?_
              refine wl_run orc_ok 1 rfl fr fun a fr => ?_
              refine wpList_nil ?_
              refine then_n ?_
              refine wp_ret ?_
              refine then_r ?_
              injection h with h
              subst h
              refine ret1 fr rfl rfl ?_
              exact ⟨rfl, fr.vok (d := 0) rfl, S.mask [false, false, false, false]⟩
            · refine wl_run orc_ok 1 rfl fr fun a fr => ?_
              obtain ⟨hc, h⟩ := ifs h
              refine wl_make lit22 fr rfl rfl rfl rfl rfl rfl hc S ?_
              intro w A21 c22 S
              intro a fr
              have S : Sat w0 _ [diskA g1 D18, ownA .u8 5 A21 c22 (List.replicate (Int.toNat (57 : Int)) (0 : Int)), logA g7 g1 x17, ownA .u8 5 A14 c15 (List.replicate (Int.toNat (100 : Int)) (0 : Int)), recsA .u8 22 5 A5 c6 p2] := S.frontAt 2 rfl
              have S : Sat w0 _ [logA g7 g1 x17, diskA g1 D18, ownA .u8 5 A21 c22 (List.replicate (Int.toNat (57 : Int)) (0 : Int)), ownA .u8 5 A14 c15 (List.replicate (Int.toNat (100 : Int)) (0 : Int)), recsA .u8 22 5 A5 c6 p2] := S.frontAt 2 rfl
              obtain ⟨hc, h⟩ := ifs h
              obtain ⟨y23, hn0, h⟩ := lt_h h
              obtain ⟨x24, hn1, h⟩ := lt_h h
              obtain ⟨D25, hn2, h⟩ := lt_h h
              have H := add_callI (A := A21) (c := c22) (l := (List.replicate (Int.toNat (57 : Int)) (0 : Int))) S (Sat.ownAt S 2 rfl) (fr.slice (d := 55) rfl) hc
              rw [hn0, hn1, hn2] at H
              refine wl_call fr rfl rfl rfl rfl en11 H ?_
              clear H
              rintro _ w ⟨rfl, hv, S⟩
              refine ⟨_, rfl, hv, fun a fr => ?_⟩
              refine wl_run orc_ok 3 rfl fr fun a fr => ?_
              refine wl_split 59 fr rfl h (fun fr h => ?_) (fun fr h => ?_)
              · refine wl_run orc_ok 17 rfl fr fun a fr => ?_
                refine wpList_nil ?_
                refine then_n ?_
                refine cw_t fr rfl ?_
                refine wp_seq ?_
                refine wp_region_lit ?_
                refine wl_run orc_ok 1 rfl fr fun a fr => ?_
                refine wpList_nil ?_
                refine then_n ?_
                refine wp_ret ?_
                refine then_r ?_
                injection h with h
                subst h
                refine ret1 fr rfl rfl ?_
                exact ⟨rfl, fr.vok (d := 0) rfl, S.mask [false, false, false, false, false]⟩
              · refine wl_run orc_ok 1 rfl fr fun a fr => ?_
                obtain ⟨hc, h⟩ := ifs h
                refine wl_make lit22 fr rfl rfl rfl rfl rfl rfl hc S ?_
                intro w A26 c27 S
                intro a fr
                have S : Sat w0 _ [diskA g1 D25, ownA .u8 5 A26 c27 (List.replicate (Int.toNat (16385 : Int)) (0 : Int)), logA g7 g1 x24, ownA .u8 5 A21 c22 (List.replicate (Int.toNat (57 : Int)) (0 : Int)), ownA .u8 5 A14 c15 (List.replicate (Int.toNat (100 : Int)) (0 : Int)), recsA .u8 22 5 A5 c6 p2] := S.frontAt 2 rfl
                have S : Sat w0 _ [logA g7 g1 x24, diskA g1 D25, ownA .u8 5 A26 c27 (List.replicate (Int.toNat (16385 : Int)) (0 : Int)), ownA .u8 5 A21 c22 (List.replicate (Int.toNat (57 : Int)) (0 : Int)), ownA .u8 5 A14 c15 (List.replicate (Int.toNat (100 : Int)) (0 : Int)), recsA .u8 22 5 A5 c6 p2] := S.frontAt 2 rfl
                obtain ⟨hc, h⟩ := ifs h
                obtain ⟨y28, hn0, h⟩ := lt_h h
                obtain ⟨x29, hn1, h⟩ := lt_h h
                obtain ⟨D30, hn2, h⟩ := lt_h h
                have H := add_callI (A := A26) (c := c27) (l := (List.replicate (Int.toNat (16385 : Int)) (0 : Int))) S (Sat.ownAt S 2 rfl) (fr.slice (d := 61) rfl) hc
                rw [hn0, hn1, hn2] at H
                refine wl_call fr rfl rfl rfl rfl en11 H ?_
                clear H
                rintro _ w ⟨rfl, hv, S⟩
                refine ⟨_, rfl, hv, fun a fr => ?_⟩
                refine wl_run orc_ok 3 rfl fr fun a fr => ?_
                refine wl_split 65 fr rfl h (fun fr h => ?_) (fun fr h => ?_)
                · refine wl_run orc_ok 11 rfl fr fun a fr => ?_
                  refine wpList_nil ?_
                  refine then_n ?_
                  refine cw_t fr rfl ?_
                  refine wp_seq ?_
                  refine wp_region_lit ?_
                  refine wl_run orc_ok 1 rfl fr fun a fr => ?_
                  refine wpList_nil ?_
                  refine then_n ?_
                  refine wp_ret ?_
                  refine then_r ?_
                  injection h with h
                  subst h
                  refine ret1 fr rfl rfl ?_
                  exact ⟨rfl, fr.vok (d := 0) rfl, S.mask [false, false, false, false, false, false]⟩
                · refine wl_run orc_ok 1 rfl fr fun a fr => ?_
                  have S : Sat w0 _ [diskA g1 D30, logA g7 g1 x29, ownA .u8 5 A26 c27 (List.replicate (Int.toNat (16385 : Int)) (0 : Int)), ownA .u8 5 A21 c22 (List.replicate (Int.toNat (57 : Int)) (0 : Int)), ownA .u8 5 A14 c15 (List.replicate (Int.toNat (100 : Int)) (0 : Int)), recsA .u8 22 5 A5 c6 p2] := S.frontAt 1 rfl
                  have S : Sat w0 _ [logA g7 g1 x29, diskA g1 D30, ownA .u8 5 A26 c27 (List.replicate (Int.toNat (16385 : Int)) (0 : Int)), ownA .u8 5 A21 c22 (List.replicate (Int.toNat (57 : Int)) (0 : Int)), ownA .u8 5 A14 c15 (List.replicate (Int.toNat (100 : Int)) (0 : Int)), recsA .u8 22 5 A5 c6 p2] := S.frontAt 1 rfl
                  obtain ⟨D31, hn0, h⟩ := lt_h h
                  have H := force_call S
                  rw [hn0] at H
                  refine wl_call fr rfl rfl rfl rfl en12 H ?_
                  clear H
                  rintro _ w ⟨rfl, S⟩
                  refine ⟨_, rfl, rfl, fun a fr => ?_⟩
                  refine wl_run orc_ok 4 rfl fr fun a fr => ?_
                  refine wl_litc (xs := [(98 : Int)]) lit22 Try.underlying5 fr rfl rfl rfl rfl rfl rfl rfl rfl ⟨rfl, rfl, trivial⟩ rfl rfl rfl S ?_
                  intro w A33 c34 rq32 mq32 S a fr
                  have S : Sat w0 _ [diskA g1 D31, logA g7 g1 x29, ownA .u8 5 A26 c27 (List.replicate (Int.toNat (16385 : Int)) (0 : Int)), ownA .u8 5 A21 c22 (List.replicate (Int.toNat (57 : Int)) (0 : Int)), ownA .u8 5 A14 c15 (List.replicate (Int.toNat (100 : Int)) (0 : Int)), recsA .u8 22 5 A5 c6 p2] := S.frontAt 1 rfl
                  have S : Sat w0 _ [logA g7 g1 x29, diskA g1 D31, ownA .u8 5 A26 c27 (List.replicate (Int.toNat (16385 : Int)) (0 : Int)), ownA .u8 5 A21 c22 (List.replicate (Int.toNat (57 : Int)) (0 : Int)), ownA .u8 5 A14 c15 (List.replicate (Int.toNat (100 : Int)) (0 : Int)), recsA .u8 22 5 A5 c6 p2] := S.frontAt 1 rfl
                  obtain ⟨hc, h⟩ := ifs h
                  obtain ⟨y35, hn0, h⟩ := lt_h h
                  obtain ⟨x36, hn1, h⟩ := lt_h h
                  obtain ⟨D37, hn2, h⟩ := lt_h h
                  have H := add_callI (A := A33) (c := c34) (l := [(98 : Int)]) S rq32 (fr.slice (d := 73) rfl) hc
                  rw [hn0, hn1, hn2] at H
                  refine wl_call fr rfl rfl rfl rfl en11 H ?_
                  clear H
                  rintro _ w ⟨rfl, hv, S⟩
                  refine ⟨_, rfl, hv, fun a fr => ?_⟩
                  refine wl_run orc_ok 2 rfl fr fun a fr => ?_
                  refine wpList_nil ?_
                  refine then_n ?_
                  refine cw_if fr rfl h (fun h => ?_) (fun h => ?_)
                  · refine wp_seq ?_
                    refine wp_region_lit ?_
                    refine wl_run orc_ok 1 rfl fr fun a fr => ?_
                    refine wpList_nil ?_
                    refine then_n ?_
                    refine wp_ret ?_
                    refine then_r ?_
                    injection h with h
                    subst h
                    refine ret1 fr rfl rfl ?_
                    exact ⟨rfl, fr.vok (d := 0) rfl, S.mask [false, false, false, false, false, false]⟩
                  · refine wp_skip ?_
                    refine then_n ?_
                    refine wp_seq ?_
                    refine wp_region_lit ?_
                    refine wl_run orc_ok 1 rfl fr fun a fr => ?_
                    have S : Sat w0 _ [diskA g1 D37, logA g7 g1 x36, ownA .u8 5 A26 c27 (List.replicate (Int.toNat (16385 : Int)) (0 : Int)), ownA .u8 5 A21 c22 (List.replicate (Int.toNat (57 : Int)) (0 : Int)), ownA .u8 5 A14 c15 (List.replicate (Int.toNat (100 : Int)) (0 : Int)), recsA .u8 22 5 A5 c6 p2] := S.frontAt 1 rfl
                    obtain ⟨hc, h⟩ := ifs h
                    refine wl_call fr rfl rfl rfl rfl en18 (disk_fail S rfl rfl hc) ?_
                    rintro _ w ⟨g38, rfl, S⟩
                    refine ⟨_, rfl, rfl, fun a fr => ?_⟩
                    obtain ⟨D39, hx, h⟩ := lt_h h
                    rw [hx] at S
                    refine wl_run orc_ok 5 rfl fr fun a fr => ?_
                    refine wpList_nil ?_
                    refine then_n ?_
                    refine wp_seq ?_
                    refine wp_region_lit ?_
                    refine wl_run orc_ok 1 rfl fr fun a fr => ?_
                    obtain ⟨hc, h⟩ := ifs h
                    obtain ⟨p40, hn0, h⟩ := lt_h h
                    obtain ⟨x41, hn1, h⟩ := lt_h h
                    obtain ⟨D42, hn2, h⟩ := lt_h h
                    have H := open_call S hc
                    rw [hn0, hn1, hn2] at H
                    refine wl_call fr rfl rfl rfl rfl en14 H ?_
                    clear H
                    rintro _ w ⟨g45, A43, c44, rfl, hv, S⟩
                    refine ⟨_, rfl, hv, fun a fr => ?_⟩
                    refine wl_run orc_ok 7 rfl fr fun a fr => ?_
                    refine wpList_nil ?_
                    refine then_n ?_
                    refine wp_seq ?_
                    refine wp_region_lit ?_
                    refine wl_run orc_ok 1 rfl fr fun a fr => ?_
                    have S : Sat w0 _ [diskA g1 D37, logA g45 g38 x41, recsA .u8 22 5 A43 c44 p40, diskA g38 D42, logA g7 g1 x36, ownA .u8 5 A26 c27 (List.replicate (Int.toNat (16385 : Int)) (0 : Int)), ownA .u8 5 A21 c22 (List.replicate (Int.toNat (57 : Int)) (0 : Int)), ownA .u8 5 A14 c15 (List.replicate (Int.toNat (100 : Int)) (0 : Int)), recsA .u8 22 5 A5 c6 p2] := S.frontAt 3 rfl
                    obtain ⟨hc, h⟩ := ifs h
                    obtain ⟨p46, hn0, h⟩ := lt_h h
                    obtain ⟨x47, hn1, h⟩ := lt_h h
                    obtain ⟨D48, hn2, h⟩ := lt_h h
                    have H := open_call S hc
                    rw [hn0, hn1, hn2] at H
                    refine wl_call fr rfl rfl rfl rfl en14 H ?_
                    clear H
                    rintro _ w ⟨g51, A49, c50, rfl, hv, S⟩
                    refine ⟨_, rfl, hv, fun a fr => ?_⟩
                    refine wl_run orc_ok 7 rfl fr fun a fr => ?_
                    refine wpList_nil ?_
                    refine then_n ?_
                    refine wp_seq ?_
                    refine wp_region_lit ?_
                    refine wl_run orc_ok 16 rfl fr fun a fr => ?_
                    refine wl_split 109 fr rfl h (fun fr h => ?_) (fun fr h => ?_)
                    · refine wl_run orc_ok 1 rfl fr fun a fr => ?_
                      obtain ⟨hc, h⟩ := ifs h
                      obtain ⟨A53, c54, rq52, mq52, cq52⟩ := RR.get (Sat.recAt S 4 rfl).1 hc
                      refine wl_ldc orc_ok (i := (0 : Int)) (v := .slice A53 (List.length (List.getD p40 (Int.toNat (0 : Int)) [])) c54) cq52 (vok_sl mq52) fr rfl rfl rfl rfl rfl rfl rfl rfl rfl rfl rfl rfl rfl rfl rfl hc fun a fr => ?_
                      refine wl_val fr rfl rfl rfl (conv_exec fr rfl rfl rfl rq52) rfl fun a fr => ?_
                      refine wl_run orc_ok 3 rfl fr fun a fr => ?_
                      refine wl_split 116 fr rfl h (fun fr h => ?_) (fun fr h => ?_)
                      · refine wl_run orc_ok 1 rfl fr fun a fr => ?_
                        obtain ⟨hc, h⟩ := ifs h
                        obtain ⟨A56, c57, rq55, mq55, cq55⟩ := RR.get (Sat.recAt S 4 rfl).1 hc
                        refine wl_ldc orc_ok (i := (1 : Int)) (v := .slice A56 (List.length (List.getD p40 (Int.toNat (1 : Int)) [])) c57) cq55 (vok_sl mq55) fr rfl rfl rfl rfl rfl rfl rfl rfl rfl rfl rfl rfl rfl rfl rfl hc fun a fr => ?_
                        refine wl_run orc_ok 4 rfl fr fun a fr => ?_
                        refine wl_split 123 fr rfl h (fun fr h => ?_) (fun fr h => ?_)
                        · refine wl_run orc_ok 5 rfl fr fun a fr => ?_
                          refine wl_split 128 fr rfl h (fun fr h => ?_) (fun fr h => ?_)
                          · refine wl_run orc_ok 1 rfl fr fun a fr => ?_
                            obtain ⟨hc, h⟩ := ifs h
                            obtain ⟨A59, c60, rq58, mq58, cq58⟩ := RR.get (Sat.recAt S 1 rfl).1 hc
                            refine wl_ldc orc_ok (i := (2 : Int)) (v := .slice A59 (List.length (List.getD p46 (Int.toNat (2 : Int)) [])) c60) cq58 (vok_sl mq58) fr rfl rfl rfl rfl rfl rfl rfl rfl rfl rfl rfl rfl rfl rfl rfl hc fun a fr => ?_
                            refine wl_val fr rfl rfl rfl (conv_exec fr rfl rfl rfl rq58) rfl fun a fr => ?_
                            refine wl_run orc_ok 3 rfl fr fun a fr => ?_
                            obtain ⟨y61, hx, h⟩ := lt_h h
                            have fr := fr.spell (d := 0) rfl (congrArg Value.bool hx)
                            refine wpList_nil ?_
                            refine then_n ?_
                            refine wp_ret ?_
                            injection h with h
                            subst h
                            refine ret1 fr rfl rfl ?_
                            exact ⟨rfl, fr.vok (d := 0) rfl, S.mask [false, false, false, false, false, false, false, false, false, false, false]⟩
                          · refine wl_run orc_ok 7 rfl fr fun a fr => ?_
                            refine wpList_nil ?_
                            refine then_n ?_
                            refine wp_ret ?_
                            injection h with h
                            subst h
                            refine ret1 fr rfl rfl ?_
                            exact ⟨rfl, fr.vok (d := 0) rfl, S.mask [false, false, false, false, false, false, false, false, false, false, false]⟩
                        · refine wl_run orc_ok 12 rfl fr fun a fr => ?_
                          refine wpList_nil ?_
                          refine then_n ?_
                          refine wp_ret ?_
                          injection h with h
                          subst h
                          refine ret1 fr rfl rfl ?_
                          exact ⟨rfl, fr.vok (d := 0) rfl, S.mask [false, false, false, false, false, false, false, false, false, false, false]⟩
                      · refine wl_run orc_ok 19 rfl fr fun a fr => ?_
                        refine wpList_nil ?_
                        refine then_n ?_
                        refine wp_ret ?_
                        injection h with h
                        subst h
                        refine ret1 fr rfl rfl ?_
                        exact ⟨rfl, fr.vok (d := 0) rfl, S.mask [false, false, false, false, false, false, false, false, false, false, false]⟩
                    · refine wl_run orc_ok 26 rfl fr fun a fr => ?_
                      refine wpList_nil ?_
                      refine then_n ?_
                      refine wp_ret ?_
                      injection h with h
                      subst h
                      refine ret1 fr rfl rfl ?_
                      exact ⟨rfl, fr.vok (d := 0) rfl, S.mask [false, false, false, false, false, false, false, false, false, false, false]⟩
  exact (key w rfl (Sat.start w)).mono fun e w' ⟨h1, h2, h3⟩ => ⟨h1, h2, S.new h3.below⟩
set_option maxRecDepth 100000 in
set_option maxHeartbeats 4000000 in
theorem WallsSure.walk (k : Nat) (A2000 : Option Addr) (c2000 : Nat) (l2000 : List (List Int)) (x2001 : Int) (x2002 : Int) (x2003 : Int) (A1 : Option Addr) (c1 : Nat) (l1 : List Int) {w0 w : World} {R : List Asn} (rk2000 : RR .u8 w A2000 l2000) (m2000 : l2000.length ≤ c2000 ∧ c2000 ≤ maxLen) (z2000 : Rdr.smL (Rdr.smL (Rdr.smT (α := Int))) l2000) (v2001 : (Lit.int .u8 x2001).wf = true) (v2002 : (Lit.int .u64 x2002).wf = true) (v2003 : (Lit.int .u8 x2003).wf = true) (rk1 : Rk .u8 w A1 l1) (m1 : l1.length ≤ c1 ∧ c1 ≤ maxLen) (S : Sat w0 w R) {r : Bool} (h : WallsSure.f k l2000 x2001 x2002 x2003 l1 = some r) :
    Calls Try.prog 4 #[(.agg #[(.slice A2000 (List.length l2000) c2000), (.int .u8 x2001), (.int .u64 x2002), (.int .u8 x2003)]), (.slice A1 (List.length l1) c1)] w fun e w' => e = .returned (.bool r) ∧ vok (.bool r) = true ∧ Sat w0 w' R := by
  have key : ∀ w0 : World, w0 = w → Sat w0 w [] → Calls Try.prog 4 #[(.agg #[(.slice A2000 (List.length l2000) c2000), (.int .u8 x2001), (.int .u64 x2002), (.int .u8 x2003)]), (.slice A1 (List.length l1) c1)] w fun e w' => e = .returned (.bool r) ∧ vok (.bool r) = true ∧ Sat w0 w' [] := by
    clear S
    intro w0 hw S
    rw [← hw] at rk1
    rw [← hw] at rk2000
    clear hw
    unfold WallsSure.f at h
    refine calls_start (N := 188) [(.agg #[(.slice A2000 (List.length l2000) c2000), (.int .u8 x2001), (.int .u64 x2002), (.int .u8 x2003)]), (.slice A1 (List.length l1) c1)] Try.func4 rfl rfl rfl (vok_c (vok1_ag (vok1_c (v := (.slice A2000 (List.length l2000) c2000)) (vok_sl (A := A2000) m2000) (vok1_c (v := (.int .u8 x2001)) v2001 (vok1_c (v := (.int .u64 x2002)) v2002 (vok1_c (v := (.int .u8 x2003)) v2003 rfl))))) (vok_c (vok_sl m1) rfl)) fun a fr => ?_
    refine wp_seq ?_
    refine wp_region_lit ?_
    refine wl_boxs fr rfl rfl rfl rfl rfl (by simp only [List.all_cons, List.all_nil, Bool.and_true, Bool.and_eq_true]; exact ⟨(vok_sl (A := A2000) m2000), v2001, v2002, v2003⟩) S ?_
    intro w g1 S a fr
    refine wl_run orc_ok 1 rfl fr fun a fr => ?_
    refine wpList_nil ?_
    refine then_n ?_
    refine wp_seq ?_
    refine wp_seq ?_
    refine wp_region_lit ?_
    obtain ⟨r2, hr, h⟩ := bnd h
    refine wl_call fr rfl rfl rfl rfl en15 (alive.walk  S hr) ?_
    rintro _ w ⟨rfl, hv, S⟩
    refine ⟨_, rfl, hv, fun a fr => ?_⟩
    refine wl_run orc_ok 2 rfl fr fun a fr => ?_
    refine wl_split 19 fr rfl h (fun fr h => ?_) (fun fr h => ?_)
    · refine wl_run orc_ok 16 rfl fr fun a fr => ?_
      refine wpList_nil ?_
      refine then_n ?_
      refine cw_t fr rfl ?_
      refine wp_seq ?_
      refine wp_region_lit ?_
      obtain ⟨r3, hr, h⟩ := bnd h
      refine wl_call fr rfl rfl rfl rfl en15 (alive.walk  S hr) ?_
      rintro _ w ⟨rfl, hv, S⟩
      refine ⟨_, rfl, hv, fun a fr => ?_⟩
      refine wl_run orc_ok 1 rfl fr fun a fr => ?_
      refine wpList_nil ?_
      refine then_n ?_
      refine wp_ret ?_
      refine then_r ?_
      injection h with h
      subst h
      refine ret1 fr rfl rfl ?_
      exact ⟨rfl, fr.vok (d := 4) rfl, S.mask [false]⟩
    · refine wl_run orc_ok 1 rfl fr fun a fr => ?_
      refine wl_ldf orc_ok (Sat.stAt S 0 rfl rfl) fr rfl rfl rfl rfl rfl rfl rfl fun a fr => ?_
      refine wl_run orc_ok 4 rfl fr fun a fr => ?_
      refine wl_split 25 fr rfl h (fun fr h => ?_) (fun fr h => ?_)
      · refine wl_run orc_ok 10 rfl fr fun a fr => ?_
        refine wpList_nil ?_
        refine then_n ?_
        refine cw_t fr rfl ?_
        refine wp_seq ?_
        refine wp_region_lit ?_
        obtain ⟨r4, hr, h⟩ := bnd h
        refine wl_call fr rfl rfl rfl rfl en15 (alive.walk  S hr) ?_
        rintro _ w ⟨rfl, hv, S⟩
        refine ⟨_, rfl, hv, fun a fr => ?_⟩
        refine wl_run orc_ok 1 rfl fr fun a fr => ?_
        refine wpList_nil ?_
        refine then_n ?_
        refine wp_ret ?_
        refine then_r ?_
        injection h with h
        subst h
        refine ret1 fr rfl rfl ?_
        exact ⟨rfl, fr.vok (d := 4) rfl, S.mask [false]⟩
      · refine wl_run orc_ok 1 rfl fr fun a fr => ?_
        refine wl_ldf orc_ok (Sat.stAt S 0 rfl rfl) fr rfl rfl rfl rfl rfl rfl rfl fun a fr => ?_
        obtain ⟨y5, hn0, h⟩ := lt_h h
        have H := recsize_call (A := A2000) (c := c2000) (ls := l2000) (Rdr.Row.keep rk2000 S.below) (fr.slice (d := 27) rfl) z2000
        rw [hn0] at H
        refine wl_call fr rfl rfl rfl rfl en16 H ?_
        clear H
        rintro _ w ⟨rfl, hv, hw⟩
        subst hw
        refine ⟨_, rfl, hv, fun a fr => ?_⟩
        refine wl_run orc_ok 3 rfl fr fun a fr => ?_
        refine wl_split 31 fr rfl h (fun fr h => ?_) (fun fr h => ?_)
        · refine wl_run orc_ok 4 rfl fr fun a fr => ?_
          refine wpList_nil ?_
          refine then_n ?_
          refine cw_t fr rfl ?_
          refine wp_seq ?_
          refine wp_region_lit ?_
          obtain ⟨r6, hr, h⟩ := bnd h
          refine wl_call fr rfl rfl rfl rfl en15 (alive.walk  S hr) ?_
          rintro _ w ⟨rfl, hv, S⟩
          refine ⟨_, rfl, hv, fun a fr => ?_⟩
          refine wl_run orc_ok 1 rfl fr fun a fr => ?_
          refine wpList_nil ?_
          refine then_n ?_
          refine wp_ret ?_
          refine then_r ?_
          injection h with h
          subst h
          refine ret1 fr rfl rfl ?_
          exact ⟨rfl, fr.vok (d := 4) rfl, S.mask [false]⟩
        · refine wl_run orc_ok 4 rfl fr fun a fr => ?_
          refine wpList_nil ?_
          refine then_n ?_
          refine cw_if fr rfl h (fun h => ?_) (fun h => ?_)
          · refine wp_seq ?_
            refine wp_region_lit ?_
            obtain ⟨r7, hr, h⟩ := bnd h
            refine wl_call fr rfl rfl rfl rfl en15 (alive.walk  S hr) ?_
            rintro _ w ⟨rfl, hv, S⟩
            refine ⟨_, rfl, hv, fun a fr => ?_⟩
            refine wl_run orc_ok 1 rfl fr fun a fr => ?_
            refine wpList_nil ?_
            refine then_n ?_
            refine wp_ret ?_
            refine then_r ?_
            injection h with h
            subst h
            refine ret1 fr rfl rfl ?_
            exact ⟨rfl, fr.vok (d := 4) rfl, S.mask [false]⟩
          · refine wp_skip ?_
            refine then_n ?_
            refine wp_seq ?_
            refine wp_region_lit ?_
            have hc : (1 ≤ (1200 : Int) ∧ (1200 : Int) ≤ (4096 : Int)) := by decide
            refine wl_call fr rfl rfl rfl rfl en17 (disk_new S hc) ?_
            rintro _ w ⟨g8, rfl, S⟩
            refine ⟨_, rfl, rfl, fun a fr => ?_⟩
            refine wl_run orc_ok 5 rfl fr fun a fr => ?_
            refine wpList_nil ?_
            refine then_n ?_
            refine wp_seq ?_
            refine wp_region_lit ?_
            refine wl_run orc_ok 1 rfl fr fun a fr => ?_
            obtain ⟨hc, h⟩ := ifs h
            obtain ⟨p9, hn0, h⟩ := lt_h h
            obtain ⟨x10, hn1, h⟩ := lt_h h
            obtain ⟨D11, hn2, h⟩ := lt_h h
            have H := open_call S hc
            rw [hn0, hn1, hn2] at H
            refine wl_call fr rfl rfl rfl rfl en14 H ?_
            clear H
            rintro _ w ⟨g14, A12, c13, rfl, hv, S⟩
            refine ⟨_, rfl, hv, fun a fr => ?_⟩
            refine wl_run orc_ok 7 rfl fr fun a fr => ?_
            refine wpList_nil ?_
            refine then_n ?_
            refine wp_seq ?_
            refine wp_seq ?_
            refine wp_region_lit ?_
            refine wl_run orc_ok 6 rfl fr fun a fr => ?_
            refine wpList_nil ?_
            refine then_n ?_
            refine cw_f fr rfl ?_
            refine wp_skip ?_
            refine then_n ?_
            refine wp_seq ?_
            refine wp_region_lit ?_
            refine wl_run orc_ok 1 rfl fr fun a fr => ?_
            refine wpList_nil ?_
            refine then_n ?_
            refine cw_cut (fun a w => ∃ kj1 : Nat, ∃ x15 : Int, Fr 188 a [(1, (.slice A1 (List.length l1) c1)), (2, (.pointer (some ⟨g1, 0, none⟩))), (5, (.pointer (some ⟨g8, 0, none⟩))), (7, (.pointer (some ⟨g14, 0, none⟩))), (10, (.int .i64 x15))] ∧ Sat w0 w [logA g14 g8 x10, diskA g8 D11, stA 44 g1 [(.slice A2000 (List.length l2000) c2000), (.int .u8 x2001), (.int .u64 x2002), (.int .u8 x2003)]] ∧ (WallsSure.j1 kj1 l2000 x2003 x2002 l1 x10 D11 x15) = some r) ?_ ?_
            · refine wp_seq ?_
              refine wp_region_lit ?_
              refine wl_run orc_ok 1 rfl fr fun a fr => ?_
              refine wl_ldf orc_ok (Sat.stAt S 3 rfl rfl) fr rfl rfl rfl rfl rfl rfl rfl fun a fr => ?_
              refine wl_run orc_ok 2 rfl fr fun a fr => ?_
              refine wpList_nil ?_
              refine then_n ?_
              refine cw_if fr rfl h (fun h => ?_) (fun h => ?_)
              · refine wp_region_lit ?_
                refine wl_run orc_ok 1 rfl fr fun a fr => ?_
                refine wl_ldf orc_ok (Sat.stAt S 3 rfl rfl) fr rfl rfl rfl rfl rfl rfl rfl fun a fr => ?_
                refine wl_run orc_ok 2 rfl fr fun a fr => ?_
                refine wl_ldf orc_ok (Sat.stAt S 3 rfl rfl) fr rfl rfl rfl rfl rfl rfl rfl fun a fr => ?_
                refine wl_run orc_ok 2 rfl fr fun a fr => ?_
                obtain ⟨hc, h⟩ := ifs h
                refine wl_pv orc_ok fr rfl rfl rfl (po_rem rfl rfl rfl hc) fun a fr => ?_
                refine wl_run orc_ok 1 rfl fr fun a fr => ?_
                obtain ⟨y59, hx, h⟩ := lt_h h
                have fr := fr.spell (d := 10) rfl (congrArg (Value.int .i64) hx)
                refine wpList_nil ?_
                have S : Sat w0 _ [logA g14 g8 x10, diskA g8 D11, stA 44 g1 [(.slice A2000 (List.length l2000) c2000), (.int .u8 x2001), (.int .u64 x2002), (.int .u8 x2003)]] := S.mask [true, false, true, true]
                have S : Sat w0 _ [stA 44 g1 [(.slice A2000 (List.length l2000) c2000), (.int .u8 x2001), (.int .u64 x2002), (.int .u8 x2003)], logA g14 g8 x10, diskA g8 D11] := S.frontAt 2 rfl
                have S : Sat w0 _ [diskA g8 D11, stA 44 g1 [(.slice A2000 (List.length l2000) c2000), (.int .u8 x2001), (.int .u64 x2002), (.int .u8 x2003)], logA g14 g8 x10] := S.frontAt 2 rfl
                have S : Sat w0 _ [logA g14 g8 x10, diskA g8 D11, stA 44 g1 [(.slice A2000 (List.length l2000) c2000), (.int .u8 x2001), (.int .u64 x2002), (.int .u8 x2003)]] := S.frontAt 2 rfl
                exact ⟨k, y59, fr.sub ⟨rfl, rfl, rfl, rfl, rfl, trivial⟩, S, h⟩
              · refine wp_skip ?_
                have S : Sat w0 _ [logA g14 g8 x10, diskA g8 D11, stA 44 g1 [(.slice A2000 (List.length l2000) c2000), (.int .u8 x2001), (.int .u64 x2002), (.int .u8 x2003)]] := S.mask [true, false, true, true]
                have S : Sat w0 _ [stA 44 g1 [(.slice A2000 (List.length l2000) c2000), (.int .u8 x2001), (.int .u64 x2002), (.int .u8 x2003)], logA g14 g8 x10, diskA g8 D11] := S.frontAt 2 rfl
                have S : Sat w0 _ [diskA g8 D11, stA 44 g1 [(.slice A2000 (List.length l2000) c2000), (.int .u8 x2001), (.int .u64 x2002), (.int .u8 x2003)], logA g14 g8 x10] := S.frontAt 2 rfl
                have S : Sat w0 _ [logA g14 g8 x10, diskA g8 D11, stA 44 g1 [(.slice A2000 (List.length l2000) c2000), (.int .u8 x2001), (.int .u64 x2002), (.int .u8 x2003)]] := S.frontAt 2 rfl
                exact ⟨k, (0 : Int), fr.sub ⟨rfl, rfl, rfl, rfl, rfl, trivial⟩, S, h⟩
            · rintro a w ⟨kj1, x15, fr, S, h⟩
              rw [WallsSure.j1] at h
              refine wp_seq ?_
              refine wp_seq ?_
              refine wp_region_lit ?_
              refine wl_run orc_ok 1 rfl fr fun a fr => ?_
              refine wpList_nil ?_
              refine then_n ?_
              refine wp_block ?_
              refine cw_loop (fun k1 a w => ∃ x16 : Int, ∃ D17 : Dk, ∃ x18 : Int, Fr 188 a [(1, (.slice A1 (List.length l1) c1)), (2, (.pointer (some ⟨g1, 0, none⟩))), (5, (.pointer (some ⟨g8, 0, none⟩))), (7, (.pointer (some ⟨g14, 0, none⟩))), (10, (.int .i64 x15)), (11, (.int .i64 x18))] ∧ Sat w0 w [logA g14 g8 x16, diskA g8 D17, stA 44 g1 [(.slice A2000 (List.length l2000) c2000), (.int .u8 x2001), (.int .u64 x2002), (.int .u8 x2003)]] ∧ (WallsSure.l1 k1 l2000 x15 x2003 x2002 l1 x16 D17 x18) = some r) kj1 ⟨x10, D11, (0 : Int), fr.sub ⟨rfl, rfl, rfl, rfl, rfl, rfl, trivial⟩, S, h⟩ ?_ ?_
              · rintro a w ⟨x16, D17, x18, -, -, h⟩
                simp only [WallsSure.l1] at h
                cases h
              · rintro k1 a w ⟨x16, D17, x18, fr, S, h⟩
                rw [WallsSure.l1] at h
                refine wp_seq ?_
                refine wp_seq ?_
                refine wp_region_lit ?_
                refine wl_run orc_ok 2 rfl fr fun a fr => ?_
                refine wl_ldf orc_ok (Sat.stAt S 2 rfl rfl) fr rfl rfl rfl rfl rfl rfl rfl fun a fr => ?_
                refine wl_run orc_ok 2 rfl fr fun a fr => ?_
                refine wpList_nil ?_
                refine then_n ?_
                refine cw_if fr rfl h (fun h => ?_) (fun h => ?_)
                · refine wp_skip ?_
                  refine then_n ?_
                  refine cw_cut (fun a w => ∃ x22 : Int, ∃ D23 : Dk, Fr 188 a [(1, (.slice A1 (List.length l1) c1)), (2, (.pointer (some ⟨g1, 0, none⟩))), (5, (.pointer (some ⟨g8, 0, none⟩))), (7, (.pointer (some ⟨g14, 0, none⟩))), (10, (.int .i64 x15)), (11, (.int .i64 x18))] ∧ Sat w0 w [logA g14 g8 x22, diskA g8 D23, stA 44 g1 [(.slice A2000 (List.length l2000) c2000), (.int .u8 x2001), (.int .u64 x2002), (.int .u8 x2003)]] ∧ (WallsSure.j2 (WallsSure.l1 k1 l2000 x15 x2003 x2002 l1) x18 x22 D23) = some r) ?_ ?_
                  · refine wp_block ?_
                    refine cw_cut (fun a w => ∃ D24 : Dk, Fr 188 a [(1, (.slice A1 (List.length l1) c1)), (2, (.pointer (some ⟨g1, 0, none⟩))), (5, (.pointer (some ⟨g8, 0, none⟩))), (7, (.pointer (some ⟨g14, 0, none⟩))), (10, (.int .i64 x15)), (11, (.int .i64 x18))] ∧ Sat w0 w [logA g14 g8 x16, diskA g8 D24, stA 44 g1 [(.slice A2000 (List.length l2000) c2000), (.int .u8 x2001), (.int .u64 x2002), (.int .u8 x2003)]] ∧ (WallsSure.j3 (WallsSure.l1 k1 l2000 x15 x2003 x2002 l1) x18 l2000 x16 D24) = some r) ?_ ?_
                    · refine wp_seq ?_
                      refine wp_region_lit ?_
                      refine wl_run orc_ok 4 rfl fr fun a fr => ?_
                      refine wl_split 75 fr rfl h (fun fr h => ?_) (fun fr h => ?_)
                      · refine wl_run orc_ok 1 rfl fr fun a fr => ?_
                        have S : Sat w0 _ [diskA g8 D17, logA g14 g8 x16, stA 44 g1 [(.slice A2000 (List.length l2000) c2000), (.int .u8 x2001), (.int .u64 x2002), (.int .u8 x2003)]] := S.frontAt 1 rfl
                        have S : Sat w0 _ [logA g14 g8 x16, diskA g8 D17, stA 44 g1 [(.slice A2000 (List.length l2000) c2000), (.int .u8 x2001), (.int .u64 x2002), (.int .u8 x2003)]] := S.frontAt 1 rfl
                        obtain ⟨D35, hn0, h⟩ := lt_h h
                        have H := force_call S
                        rw [hn0] at H
                        refine wl_call fr rfl rfl rfl rfl en12 H ?_
                        clear H
                        rintro _ w ⟨rfl, S⟩
                        refine ⟨_, rfl, rfl, fun a fr => ?_⟩
                        refine wl_run orc_ok 2 rfl fr fun a fr => ?_
                        refine wpList_nil ?_
                        refine then_n ?_
                        refine cw_f fr rfl ?_
                        refine wp_skip ?_
                        exact ⟨D35, fr.sub ⟨rfl, rfl, rfl, rfl, rfl, rfl, trivial⟩, S, h⟩
                      · refine wl_run orc_ok 4 rfl fr fun a fr => ?_
                        refine wpList_nil ?_
                        refine then_n ?_
                        refine cw_f fr rfl ?_
                        refine wp_skip ?_
                        exact ⟨D17, fr.sub ⟨rfl, rfl, rfl, rfl, rfl, rfl, trivial⟩, S, h⟩
                    · rintro a w ⟨D24, fr, S, h⟩
                      rw [WallsSure.j3] at h
                      refine wp_seq ?_
                      refine wp_region_lit ?_
                      refine wl_run orc_ok 2 rfl fr fun a fr => ?_
                      refine wl_ldf orc_ok (Sat.stAt S 2 rfl rfl) fr rfl rfl rfl rfl rfl rfl rfl fun a fr => ?_
                      refine wl_run orc_ok 3 rfl fr fun a fr => ?_
                      refine wl_split 85 fr rfl h (fun fr h => ?_) (fun fr h => ?_)
                      · refine wl_run orc_ok 2 rfl fr fun a fr => ?_
                        refine wl_ldf orc_ok (Sat.stAt S 2 rfl rfl) fr rfl rfl rfl rfl rfl rfl rfl fun a fr => ?_
                        refine wl_run orc_ok 1 rfl fr fun a fr => ?_
                        obtain ⟨hc, h⟩ := ifs h
                        obtain ⟨A26, c27, rq25, mq25, cq25⟩ := RR.get rk2000 hc
                        refine wl_ldc orc_ok (i := x18) (v := .slice A26 (List.length (List.getD l2000 (Int.toNat x18) [])) c27) (cq25.imp fun _ h => ⟨h.1, RR.cellAt S.below h.2⟩) (vok_sl mq25) fr rfl rfl rfl rfl rfl rfl rfl rfl rfl rfl rfl rfl rfl rfl rfl hc fun a fr => ?_
                        have S : Sat w0 _ [diskA g8 D24, logA g14 g8 x16, stA 44 g1 [(.slice A2000 (List.length l2000) c2000), (.int .u8 x2001), (.int .u64 x2002), (.int .u8 x2003)]] := S.frontAt 1 rfl
                        have S : Sat w0 _ [logA g14 g8 x16, diskA g8 D24, stA 44 g1 [(.slice A2000 (List.length l2000) c2000), (.int .u8 x2001), (.int .u64 x2002), (.int .u8 x2003)]] := S.frontAt 1 rfl
                        obtain ⟨hc, h⟩ := ifs h
                        obtain ⟨y28, hn0, h⟩ := lt_h h
                        obtain ⟨x29, hn1, h⟩ := lt_h h
                        obtain ⟨D30, hn2, h⟩ := lt_h h
                        have H := add_callI (A := A26) (c := c27) (l := (List.getD l2000 (Int.toNat x18) [])) S (Rk.at rq25 S) (fr.slice (d := 91) rfl) hc
                        rw [hn0, hn1, hn2] at H
                        refine wl_call fr rfl rfl rfl rfl en11 H ?_
                        clear H
                        rintro _ w ⟨rfl, hv, S⟩
                        refine ⟨_, rfl, hv, fun a fr => ?_⟩
                        refine wl_run orc_ok 2 rfl fr fun a fr => ?_
                        refine wpList_nil ?_
                        refine then_n ?_
                        refine cw_if fr rfl h (fun h => ?_) (fun h => ?_)
                        · refine wp_seq ?_
                          refine wp_region_lit ?_
                          refine wl_run orc_ok 1 rfl fr fun a fr => ?_
                          refine wl_ldf orc_ok (Sat.stAt S 2 rfl rfl) fr rfl rfl rfl rfl rfl rfl rfl fun a fr => ?_
                          refine wl_run orc_ok 1 rfl fr fun a fr => ?_
                          obtain ⟨hc, h⟩ := ifs h
                          obtain ⟨A32, c33, rq31, mq31, cq31⟩ := RR.get rk2000 hc
                          refine wl_ldc orc_ok (i := x18) (v := .slice A32 (List.length (List.getD l2000 (Int.toNat x18) [])) c33) (cq31.imp fun _ h => ⟨h.1, RR.cellAt S.below h.2⟩) (vok_sl mq31) fr rfl rfl rfl rfl rfl rfl rfl rfl rfl rfl rfl rfl rfl rfl rfl hc fun a fr => ?_
                          refine wl_run orc_ok 3 rfl fr fun a fr => ?_
                          obtain ⟨y34, hx, h⟩ := lt_h h
                          have fr := fr.spell (d := 4) rfl (congrArg Value.bool hx)
                          refine wpList_nil ?_
                          refine then_n ?_
                          refine wp_ret ?_
                          refine blk_r ?_
                          refine then_r ?_
                          refine then_r ?_
                          refine blk_r ?_
                          refine then_r ?_
                          injection h with h
                          subst h
                          refine ret1 fr rfl rfl ?_
                          exact ⟨rfl, fr.vok (d := 4) rfl, S.mask [false, false, false]⟩
                        · refine wp_skip ?_
                          refine blk_n ?_
                          exact ⟨x29, D30, fr.sub ⟨rfl, rfl, rfl, rfl, rfl, rfl, trivial⟩, S, h⟩
                      · refine wl_run orc_ok 9 rfl fr fun a fr => ?_
                        refine wpList_nil ?_
                        refine then_n ?_
                        refine cw_f fr rfl ?_
                        refine wp_skip ?_
                        refine blk_n ?_
                        exact ⟨x16, D24, fr.sub ⟨rfl, rfl, rfl, rfl, rfl, rfl, trivial⟩, S, h⟩
                  · rintro a w ⟨x22, D23, fr, S, h⟩
                    rw [WallsSure.j2] at h
                    refine wp_region_lit ?_
                    refine wl_run orc_ok 3 rfl fr fun a fr => ?_
                    refine wpList_nil ?_
                    exact ⟨x22, D23, (IntKind.wrap .i64 (x18 + (1 : Int))), fr.sub ⟨rfl, rfl, rfl, rfl, rfl, rfl, trivial⟩, S, h⟩
                · refine wp_exit ?_
                  refine then_e ?_
                  refine then_e ?_
                  refine blk_y ?_
                  refine then_n ?_
                  refine wp_seq ?_
                  refine wp_region_lit ?_
                  refine wl_run orc_ok 2 rfl fr fun a fr => ?_
                  refine wl_ldf orc_ok (Sat.stAt S 2 rfl rfl) fr rfl rfl rfl rfl rfl rfl rfl fun a fr => ?_
                  refine wl_run orc_ok 1 rfl fr fun a fr => ?_
                  refine wl_ldf orc_ok (Sat.stAt S 2 rfl rfl) fr rfl rfl rfl rfl rfl rfl rfl fun a fr => ?_
                  refine wl_run orc_ok 3 rfl fr fun a fr => ?_
                  have S : Sat w0 _ [diskA g8 D17, logA g14 g8 x16, stA 44 g1 [(.slice A2000 (List.length l2000) c2000), (.int .u8 x2001), (.int .u64 x2002), (.int .u8 x2003)]] := S.frontAt 1 rfl
                  obtain ⟨hc, h⟩ := ifs h
                  refine wl_call fr rfl rfl rfl rfl en18 (disk_fail S (fr.int (d := 105) rfl) (fr.int (d := 110) rfl) hc) ?_
                  rintro _ w ⟨g36, rfl, S⟩
                  refine ⟨_, rfl, rfl, fun a fr => ?_⟩
                  obtain ⟨D37, hx, h⟩ := lt_h h
                  rw [hx] at S
                  refine wl_run orc_ok 5 rfl fr fun a fr => ?_
                  refine wpList_nil ?_
                  refine then_n ?_
                  refine wp_seq ?_
                  refine wp_region_lit ?_
                  refine wl_run orc_ok 1 rfl fr fun a fr => ?_
                  obtain ⟨hc, h⟩ := ifs h
                  obtain ⟨p38, hn0, h⟩ := lt_h h
                  obtain ⟨x39, hn1, h⟩ := lt_h h
                  obtain ⟨D40, hn2, h⟩ := lt_h h
                  have H := open_call S hc
                  rw [hn0, hn1, hn2] at H
                  refine wl_call fr rfl rfl rfl rfl en14 H ?_
                  clear H
                  rintro _ w ⟨g43, A41, c42, rfl, hv, S⟩
                  refine ⟨_, rfl, hv, fun a fr => ?_⟩
                  refine wl_run orc_ok 7 rfl fr fun a fr => ?_
                  refine wpList_nil ?_
                  refine then_n ?_
                  refine wp_seq ?_
                  refine wp_seq ?_
                  refine wp_region_sl [.one (0, true, some 120), .one (1, true, some 121), .one (2, true, some 122), .one (3, true, some 123), .one (4, true, some 124), .one (5, true, some 125), .one (6, true, some 126), .one (7, true, some 127), .one (8, true, some 128), .one (9, true, some 129), .one (10, true, some 130), .one (11, true, some 131), .one (12, true, some 132), .one (13, true, some 133), .one (14, true, some 134), .one (15, true, some 135), .one (16, true, some 136), .one (17, true, some 137), .one (18, true, some 138), .one (19, true, some 139), .one (20, true, some 140), .one (21, true, some 141), .one (22, true, some 142), .one (23, true, some 143), .one (24, true, some 144), .one (25, true, some 145), .one (26, true, some 146), .one (27, true, some 147), .one (28, false, some 148), .one (29, true, some 149), .one (30, true, some 150)]
                    [.one ⟨true, some 120, (Go.Op.move (Go.Operand.tmp 6)), 30, none⟩,
    .one ⟨true, some 121, (Go.Op.binOp Go.BinOp.neq 30 (Go.Operand.tmp 120) (Go.Operand.const (Go.Value.int Go.IntKind.i64 0)) 30), 4, none⟩,
    .one ⟨true, some 122, (Go.Op.move (Go.Operand.tmp 121)), 4, none⟩,
    .one ⟨true, some 123, (Go.Op.move (Go.Operand.tmp 9)), 30, some (122, false)⟩,
    .one ⟨true, some 124, (Go.Op.binOp Go.BinOp.neq 30 (Go.Operand.tmp 123) (Go.Operand.const (Go.Value.int Go.IntKind.i64 0)) 30), 4, some (122, false)⟩,
    .one ⟨true, some 125, (Go.Op.pick (Go.Operand.tmp 122) (Go.Operand.const (Go.Value.bool true)) (Go.Operand.tmp 124)), 4, none⟩,
    .one ⟨true, some 126, (Go.Op.move (Go.Operand.tmp 125)), 4, none⟩,
    .one ⟨true, some 127, (Go.Op.move (Go.Operand.tmp 14)), 34, some (126, false)⟩,
    .one ⟨true, some 128, (Go.Op.call { callee := (Go.Callee.builtin Go.Builtin.len), args := #[(Go.Operand.tmp 127)], argTypes := #[34] }), 3, some (126, false)⟩,
    .one ⟨true, some 129, (Go.Op.move (Go.Operand.tmp 10)), 3, some (126, false)⟩,
    .one ⟨true, some 130, (Go.Op.binOp Go.BinOp.lss 3 (Go.Operand.tmp 128) (Go.Operand.tmp 129) 3), 4, some (126, false)⟩,
    .one ⟨true, some 131, (Go.Op.pick (Go.Operand.tmp 126) (Go.Operand.const (Go.Value.bool true)) (Go.Operand.tmp 130)), 4, none⟩,
    .one ⟨true, some 132, (Go.Op.move (Go.Operand.tmp 131)), 4, none⟩,
    .one ⟨true, some 133, (Go.Op.move (Go.Operand.tmp 14)), 34, some (132, false)⟩,
    .one ⟨true, some 134, (Go.Op.call { callee := (Go.Callee.builtin Go.Builtin.len), args := #[(Go.Operand.tmp 133)], argTypes := #[34] }), 3, some (132, false)⟩,
    .one ⟨true, some 135, (Go.Op.fieldAddr 44 (Go.Operand.tmp 2) 0), 0, some (132, false)⟩,
    .one ⟨true, some 136, (Go.Op.load 34 (Go.Operand.tmp 135)), 34, some (132, false)⟩,
    .one ⟨true, some 137, (Go.Op.call { callee := (Go.Callee.builtin Go.Builtin.len), args := #[(Go.Operand.tmp 136)], argTypes := #[34] }), 3, some (132, false)⟩,
    .one ⟨true, some 138, (Go.Op.binOp Go.BinOp.gtr 3 (Go.Operand.tmp 134) (Go.Operand.tmp 137) 3), 4, some (132, false)⟩,
    .one ⟨true, some 139, (Go.Op.pick (Go.Operand.tmp 132) (Go.Operand.const (Go.Value.bool true)) (Go.Operand.tmp 138)), 4, none⟩,
    .one ⟨true, some 140, (Go.Op.move (Go.Operand.tmp 139)), 4, none⟩,
    .one ⟨true, some 141, (Go.Op.move (Go.Operand.tmp 14)), 34, some (140, false)⟩,
    .one ⟨true, some 142, (Go.Op.move (Go.Operand.tmp 10)), 3, some (140, false)⟩,
    .one ⟨true, some 143, (Go.Op.slice 34 (Go.Operand.tmp 141) none (some (Go.Operand.tmp 142)) none), 34, some (140, false)⟩,
    .one ⟨true, some 144, (Go.Op.fieldAddr 44 (Go.Operand.tmp 2) 0), 0, some (140, false)⟩,
    .one ⟨true, some 145, (Go.Op.load 34 (Go.Operand.tmp 144)), 34, some (140, false)⟩,
    .one ⟨true, some 146, (Go.Op.move (Go.Operand.tmp 10)), 3, some (140, false)⟩,
    .one ⟨true, some 147, (Go.Op.slice 34 (Go.Operand.tmp 145) none (some (Go.Operand.tmp 146)) none), 34, some (140, false)⟩,
    .one ⟨false, some 148, (Go.Op.call { callee := (Go.Callee.value (Go.Operand.func 19)), args := #[(Go.Operand.tmp 143), (Go.Operand.tmp 147)], argTypes := #[34, 34] }), 4, some (140, false)⟩,
    .one ⟨true, some 149, (Go.Op.unOp Go.UnOp.not 4 (Go.Operand.tmp 148)), 4, some (140, false)⟩,
    .one ⟨true, some 150, (Go.Op.pick (Go.Operand.tmp 140) (Go.Operand.const (Go.Value.bool true)) (Go.Operand.tmp 149)), 4, none⟩]
                    (fun w => Sat w0 w [logA g43 g36 x39, recsA .u8 22 5 A41 c42 p38, diskA g36 D40, diskA g8 D17, logA g14 g8 x16, stA 44 g1 [(.slice A2000 (List.length l2000) c2000), (.int .u8 x2001), (.int .u64 x2002), (.int .u8 x2003)]]) rfl (by kernel_rfl) (by kernel_rfl) (S.drew.mask [true, true, true, true, true, true]) ?_
                  have S := S.drew
                  refine sl_run orc_ok 13 rfl fr fun a fr => ?_
                  refine sl_split 132 fr rfl h (fun fr h => ?_) (fun fr h => ?_)
                  · cases h
                  · refine sl_run orc_ok 3 rfl fr fun a fr => ?_
                    refine sl_ldf orc_ok (fun _ S => Sat.stAt S 5 rfl rfl) fr rfl rfl rfl rfl rfl rfl rfl rfl (Sat.mask S [true, true, true, true, true, true]) fun a fr => ?_
                    refine sl_run orc_ok 4 rfl fr fun a fr => ?_
                    refine sl_split 140 fr rfl h (fun fr h => ?_) (fun fr h => ?_)
                    · cases h
                    · refine sl_run orc_ok 2 rfl fr fun a fr => ?_
                      obtain ⟨hc, h⟩ := ifs h
                      refine sl_taker orc_ok fr rfl rfl rfl rfl rfl rfl rfl rfl rfl rfl hc fun a fr => ?_
                      refine sl_run orc_ok 1 rfl fr fun a fr => ?_
                      refine sl_ldf orc_ok (fun _ S => Sat.stAt S 5 rfl rfl) fr rfl rfl rfl rfl rfl rfl rfl rfl (Sat.mask S [true, true, true, true, true, true]) fun a fr => ?_
                      refine sl_run orc_ok 1 rfl fr fun a fr => ?_
                      obtain ⟨hc, h⟩ := ifs h
                      refine sl_taker orc_ok fr rfl rfl rfl rfl rfl rfl rfl rfl rfl rfl hc fun a fr => ?_
                      obtain ⟨hc, h⟩ := ifs h
                      obtain ⟨y44, hn0, h⟩ := lt_h h
                      have H := samerecs_call (A := A41) (ca := c42) (a := (List.take (Int.toNat x15) p38)) (B := A2000) (cb := c2000) (b := (List.take (Int.toNat x15) l2000)) (RR.take (Sat.recAt S 1 rfl).1 (Int.toNat x15)) (RR.take (Rdr.Row.keep rk2000 S.below) (Int.toNat x15)) (fr.slice (d := 143) rfl) (fr.slice (d := 147) rfl) hc S
                      rw [hn0] at H
                      refine sl_call fr rfl rfl rfl rfl rfl en19 H ?_
                      clear H
                      rintro _ w ⟨rfl, S⟩
                      refine ⟨_, rfl, rfl, (Sat.mask S [true, true, true, true, true, true]), fun a fr => ?_⟩
                      refine sl_run orc_ok 2 rfl fr fun a fr => ?_
                      refine sl_end ?_
                      refine then_n ?_
                      refine cw_if fr rfl h (fun h => ?_) (fun h => ?_)
                      · cases h
                      · refine wp_skip ?_
                        refine then_n ?_
                        refine wp_seq ?_
                        refine wp_seq ?_
                        refine wp_region_lit ?_
                        refine wl_run orc_ok 2 rfl fr fun a fr => ?_
                        have S : Sat w0 _ [diskA g36 D40, logA g43 g36 x39, recsA .u8 22 5 A41 c42 p38, diskA g8 D17, logA g14 g8 x16, stA 44 g1 [(.slice A2000 (List.length l2000) c2000), (.int .u8 x2001), (.int .u64 x2002), (.int .u8 x2003)]] := S.frontAt 2 rfl
                        have S : Sat w0 _ [logA g43 g36 x39, diskA g36 D40, recsA .u8 22 5 A41 c42 p38, diskA g8 D17, logA g14 g8 x16, stA 44 g1 [(.slice A2000 (List.length l2000) c2000), (.int .u8 x2001), (.int .u64 x2002), (.int .u8 x2003)]] := S.frontAt 1 rfl
                        obtain ⟨hc, h⟩ := ifs h
                        obtain ⟨y45, hn0, h⟩ := lt_h h
                        obtain ⟨x46, hn1, h⟩ := lt_h h
                        obtain ⟨D47, hn2, h⟩ := lt_h h
                        have H := add_callI (A := A1) (c := c1) (l := l1) S (Rk.at rk1 S) (fr.slice (d := 152) rfl) hc
                        rw [hn0, hn1, hn2] at H
                        refine wl_call fr rfl rfl rfl rfl en11 H ?_
                        clear H
                        rintro _ w ⟨rfl, hv, S⟩
                        refine ⟨_, rfl, hv, fun a fr => ?_⟩
                        refine wl_run orc_ok 1 rfl fr fun a fr => ?_
                        refine wpList_nil ?_
                        refine then_n ?_
                        refine cw_if fr rfl h (fun h => ?_) (fun h => ?_)
                        · cases h
                        · refine wp_skip ?_
                          refine then_n ?_
                          refine wp_seq ?_
                          refine wp_region_lit ?_
                          refine wl_run orc_ok 1 rfl fr fun a fr => ?_
                          have S : Sat w0 _ [diskA g36 D47, logA g43 g36 x46, recsA .u8 22 5 A41 c42 p38, diskA g8 D17, logA g14 g8 x16, stA 44 g1 [(.slice A2000 (List.length l2000) c2000), (.int .u8 x2001), (.int .u64 x2002), (.int .u8 x2003)]] := S.frontAt 1 rfl
                          obtain ⟨hc, h⟩ := ifs h
                          obtain ⟨p48, hn0, h⟩ := lt_h h
                          obtain ⟨x49, hn1, h⟩ := lt_h h
                          obtain ⟨D50, hn2, h⟩ := lt_h h
                          have H := open_call S hc
                          rw [hn0, hn1, hn2] at H
                          refine wl_call fr rfl rfl rfl rfl en14 H ?_
                          clear H
                          rintro _ w ⟨g53, A51, c52, rfl, hv, S⟩
                          refine ⟨_, rfl, hv, fun a fr => ?_⟩
                          refine wl_run orc_ok 7 rfl fr fun a fr => ?_
                          refine wpList_nil ?_
                          refine then_n ?_
                          refine wp_seq ?_
                          refine wp_region_lit ?_
                          refine wl_run orc_ok 11 rfl fr fun a fr => ?_
                          refine wl_split 171 fr rfl h (fun fr h => ?_) (fun fr h => ?_)
                          · refine wl_run orc_ok 3 rfl fr fun a fr => ?_
                            obtain ⟨hc, h⟩ := ifs h
                            refine wl_taker orc_ok fr rfl rfl rfl rfl rfl rfl rfl rfl rfl hc fun a fr => ?_
                            refine wl_run orc_ok 1 rfl fr fun a fr => ?_
                            obtain ⟨hc, h⟩ := ifs h
                            obtain ⟨y54, hn0, h⟩ := lt_h h
                            have H := samerecs_call (A := A51) (ca := c52) (a := (List.take (Int.toNat (List.length p38 : Int)) p48)) (B := A41) (cb := c42) (b := p38) (RR.take (Sat.recAt S 1 rfl).1 (Int.toNat (List.length p38 : Int))) (Sat.recAt S 4 rfl).1 (fr.slice (d := 175) rfl) (fr.slice (d := 176) rfl) hc S
                            rw [hn0] at H
                            refine wl_call fr rfl rfl rfl rfl en19 H ?_
                            clear H
                            rintro _ w ⟨rfl, S⟩
                            refine ⟨_, rfl, rfl, fun a fr => ?_⟩
                            refine wl_run orc_ok 2 rfl fr fun a fr => ?_
                            refine wl_split 179 fr rfl h (fun fr h => ?_) (fun fr h => ?_)
                            · refine wl_run orc_ok 3 rfl fr fun a fr => ?_
                              obtain ⟨hc, h⟩ := ifs h
                              obtain ⟨A56, c57, rq55, mq55, cq55⟩ := RR.get (Sat.recAt S 1 rfl).1 hc
                              refine wl_ldc orc_ok (i := (List.length p38 : Int)) (v := .slice A56 (List.length (List.getD p48 (Int.toNat (List.length p38 : Int)) [])) c57) cq55 (vok_sl mq55) fr rfl rfl rfl rfl rfl rfl rfl rfl rfl rfl rfl rfl rfl rfl rfl hc fun a fr => ?_
                              refine wl_run orc_ok 1 rfl fr fun a fr => ?_
                              obtain ⟨hc, h⟩ := ifs h
                              obtain ⟨y58, hn0, h⟩ := lt_h h
                              have H := same_call (A := A56) (ca := c57) (a := (List.getD p48 (Int.toNat (List.length p38 : Int)) [])) (B := A1) (cb := c1) (b := l1) rq55 (Rk.at rk1 S) hc S
                              rw [hn0] at H
                              refine wl_call fr rfl rfl rfl rfl en20 H ?_
                              clear H
                              rintro _ w ⟨rfl, S⟩
                              refine ⟨_, rfl, rfl, fun a fr => ?_⟩
                              refine wl_run orc_ok 2 rfl fr fun a fr => ?_
                              refine wpList_nil ?_
                              refine then_n ?_
                              refine wp_ret ?_
                              injection h with h
                              subst h
                              refine ret1 fr rfl rfl ?_
                              exact ⟨rfl, fr.vok (d := 4) rfl, S.mask [false, false, false, false, false, false, false, false]⟩
                            · cases h
                          · cases h
  exact (key w rfl (Sat.start w)).mono fun e w' ⟨h1, h2, h3⟩ => ⟨h1, h2, S.new h3.below⟩
end Go.Proofs.Ytmpkoacpakepfaa.Pl
