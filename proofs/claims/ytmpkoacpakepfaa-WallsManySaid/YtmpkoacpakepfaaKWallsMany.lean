/- Walks over the program's functions, printed by a program of this work (wip/tools/shal.py): each call does what the plain function says. -/
import Derived.Test.YtmpkoacpakepfaaProg
import Derived.Test.YtmpkoacpakepfaaRk
import Derived.Test.YtmpkoacpakepfaaPool
import Derived.Test.YtmpkoacpakepfaaSo
import Derived.Test.YtmpkoacpakepfaaDWallsMany
namespace Go.Proofs.Ytmpkoacpakepfaa.Pl
open Go Go.RowKit Sx Base Own Disk Bytes

def orc : Orc := ⟨[(3, .int .i64), (5, .int .u8), (9, .string), (22, .slice 5), (34, .slice 22)],
  [(5, 1), (22, 1)]⟩
theorem orc_ok : orc.Ok Try.prog := ⟨⟨Try.underlying3, Try.underlying5, Try.underlying9, Try.underlying22, Try.underlying34, trivial⟩, ⟨by kernel_rfl, by kernel_rfl, trivial⟩⟩
theorem en11 : Enters Try.prog 11 := fun _ _ => by kernel_rfl
theorem en12 : Enters Try.prog 12 := fun _ _ => by kernel_rfl
theorem en13 : Enters Try.prog 13 := fun _ _ => by kernel_rfl
theorem en14 : Enters Try.prog 14 := fun _ _ => by kernel_rfl
theorem en15 : Enters Try.prog 15 := fun _ _ => by kernel_rfl
theorem en17 : Enters Try.prog 17 := fun _ _ => by kernel_rfl
theorem en18 : Enters Try.prog 18 := fun _ _ => by kernel_rfl
theorem lit22 : RowTy Try.prog 22 5 .u8 := ⟨Try.underlying22, 1, by decide, by kernel_rfl⟩
set_option maxRecDepth 100000 in
set_option maxHeartbeats 4000000 in
theorem alive.walk  {w0 w : World} {R : List Asn}  (S : Sat w0 w R) {r : Bool} (h : alive.f = some r) :
    Calls Try.prog 15 #[] w fun e w' => e = .returned (.bool r) ∧ vok (.bool r) = true ∧ Sat w0 w' R := by
  have key : ∀ w0 : World, w0 = w → Sat w0 w [] → Calls Try.prog 15 #[] w fun e w' => e = .returned (.bool r) ∧ vok (.bool r) = true ∧ Sat w0 w' [] := by
    clear S
    intro w0 hw S
    clear hw
    unfold alive.f at h
    refine calls_start (N := 135) [] Try.func15 rfl rfl rfl rfl fun a fr => ?_
    refine wp_seq ?_
    refine wp_region_lit ?_
    refine wl_run orc_ok 1 rfl fr fun a fr => ?_
    refine wpList_nil ?_
    refine then_n ?_
    refine wp_seq ?_
    refine wp_region_lit ?_
    have hc : (1 ≤ (4 : Int) ∧ (4 : Int) ≤ (4096 : Int)) := by decide
    refine wl_call fr rfl rfl rfl rfl en17 (disk_new S hc) ?_
    rintro _ w ⟨g1, rfl, S⟩
    refine ⟨_, rfl, rfl, fun a fr => ?_⟩
    refine wl_run orc_ok 5 rfl fr fun a fr => ?_
    refine wpList_nil ?_
    refine then_n ?_
    refine wp_seq ?_
    refine wp_region_lit ?_
    refine wl_run orc_ok 1 rfl fr fun a fr => ?_
    obtain ⟨hc, h⟩ := ifs h
    obtain ⟨p2, hn0, h⟩ := lt_h h
    obtain ⟨x3, hn1, h⟩ := lt_h h
    obtain ⟨D4, hn2, h⟩ := lt_h h
    have H := open_call S hc
    rw [hn0, hn1, hn2] at H
    refine wl_call fr rfl rfl rfl rfl en14 H ?_
    clear H
    rintro _ w ⟨g7, A5, c6, rfl, hv, S⟩
    refine ⟨_, rfl, hv, fun a fr => ?_⟩
    refine wl_run orc_ok 7 rfl fr fun a fr => ?_
    refine wpList_nil ?_
    refine then_n ?_
    refine wp_seq ?_
    refine wp_seq ?_
    refine wp_region_lit ?_
    refine wl_run orc_ok 8 rfl fr fun a fr => ?_
    refine wl_split 31 fr rfl h (fun fr h => ?_) (fun fr h => ?_)
    · refine wl_run orc_ok 45 rfl fr fun a fr => ?_
      refine wpList_nil ?_
      refine then_n ?_
      refine cw_t fr rfl ?_
      refine wp_seq ?_
      refine wp_region_lit ?_
      refine wl_run orc_ok 1 rfl fr fun a fr => ?_
      refine wpList_nil ?_
      refine then_n ?_
      refine wp_ret ?_
      refine then_r ?_
      injection h with h
      subst h
      refine ret1 fr rfl rfl ?_
      exact ⟨rfl, fr.vok (d := 0) rfl, S.mask [false, false, false]⟩
    · refine wl_run orc_ok 1 rfl fr fun a fr => ?_
      refine wl_litc (xs := [(97 : Int)]) lit22 Try.underlying5 fr rfl rfl rfl rfl rfl rfl rfl rfl ⟨rfl, rfl, trivial⟩ rfl rfl rfl S ?_
      intro w A9 c10 rq8 mq8 S a fr
      have S : Sat w0 _ [diskA g1 D4, logA g7 g1 x3, recsA .u8 22 5 A5 c6 p2] := S.frontAt 2 rfl
      have S : Sat w0 _ [logA g7 g1 x3, diskA g1 D4, recsA .u8 22 5 A5 c6 p2] := S.frontAt 1 rfl
      obtain ⟨hc, h⟩ := ifs h
      obtain ⟨y11, hn0, h⟩ := lt_h h
      obtain ⟨x12, hn1, h⟩ := lt_h h
      obtain ⟨D13, hn2, h⟩ := lt_h h
      have H := add_callI (A := A9) (c := c10) (l := [(97 : Int)]) S rq8 (fr.slice (d := 34) rfl) hc
      rw [hn0, hn1, hn2] at H
      refine wl_call fr rfl rfl rfl rfl en11 H ?_
      clear H
      rintro _ w ⟨rfl, hv, S⟩
      refine ⟨_, rfl, hv, fun a fr => ?_⟩
      refine wl_run orc_ok 3 rfl fr fun a fr => ?_
      refine wl_split 38 fr rfl h (fun fr h => ?_) (fun fr h => ?_)
      · refine wl_run orc_ok 38 rfl fr fun a fr => ?_
        refine wpList_nil ?_
        refine then_n ?_
        refine cw_t fr rfl ?_
        refine wp_seq ?_
        refine wp_region_lit ?_
        refine wl_run orc_ok 1 rfl fr fun a fr => ?_
        refine wpList_nil ?_
        refine then_n ?_
        refine wp_ret ?_
        refine then_r ?_
        injection h with h
        subst h
        refine ret1 fr rfl rfl ?_
        exact ⟨rfl, fr.vok (d := 0) rfl, S.mask [false, false, false]⟩
      · refine wl_run orc_ok 1 rfl fr fun a fr => ?_
        obtain ⟨hc, h⟩ := ifs h
        refine wl_make lit22 fr rfl rfl rfl rfl rfl rfl hc S ?_
        intro w A14 c15 S
        intro a fr
        have S : Sat w0 _ [diskA g1 D13, ownA .u8 5 A14 c15 (List.replicate (Int.toNat (100 : Int)) (0 : Int)), logA g7 g1 x12, recsA .u8 22 5 A5 c6 p2] := S.frontAt 2 rfl
        have S : Sat w0 _ [logA g7 g1 x12, diskA g1 D13, ownA .u8 5 A14 c15 (List.replicate (Int.toNat (100 : Int)) (0 : Int)), recsA .u8 22 5 A5 c6 p2] := S.frontAt 2 rfl
        obtain ⟨hc, h⟩ := ifs h
        obtain ⟨y16, hn0, h⟩ := lt_h h
        obtain ⟨x17, hn1, h⟩ := lt_h h
        obtain ⟨D18, hn2, h⟩ := lt_h h
        have H := add_callI (A := A14) (c := c15) (l := (List.replicate (Int.toNat (100 : Int)) (0 : Int))) S (Sat.ownAt S 2 rfl) (fr.slice (d := 40) rfl) hc
        rw [hn0, hn1, hn2] at H
        refine wl_call fr rfl rfl rfl rfl en11 H ?_
        clear H
        rintro _ w ⟨rfl, hv, S⟩
        refine ⟨_, rfl, hv, fun a fr => ?_⟩
        refine wl_run orc_ok 3 rfl fr fun a fr => ?_
        refine wl_split 44 fr rfl h (fun fr h => ?_) (fun fr h => ?_)
        · refine wl_run orc_ok 32 rfl fr fun a fr => ?_
          refine wpList_nil ?_
          refine then_n ?_
          refine cw_t fr rfl ?_
          refine wp_seq ?_
          refine wp_region_lit ?_
          refine wl_run orc_ok 1 rfl fr fun a fr => ?_
          refine wpList_nil ?_
          refine then_n ?_
          refine wp_ret ?_
          refine then_r ?_
          injection h with h
          subst h
          refine ret1 fr rfl rfl ?_
          exact ⟨rfl, fr.vok (d := 0) rfl, S.mask [false, false, false, false]⟩
        · refine wl_run orc_ok 1 rfl fr fun a fr => ?_
          have S : Sat w0 _ [diskA g1 D18, logA g7 g1 x17, ownA .u8 5 A14 c15 (List.replicate (Int.toNat (100 : Int)) (0 : Int)), recsA .u8 22 5 A5 c6 p2] := S.frontAt 1 rfl
          have S : Sat w0 _ [logA g7 g1 x17, diskA g1 D18, ownA .u8 5 A14 c15 (List.replicate (Int.toNat (100 : Int)) (0 : Int)), recsA .u8 22 5 A5 c6 p2] := S.frontAt 1 rfl
          obtain ⟨hc, h⟩ := ifs h
          obtain ⟨y19, hn0, h⟩ := lt_h h
          have H := room_call S hc (show (Lit.int .i64 (56 : Int)).wf = true by decide)
          rw [hn0] at H
          refine wl_call fr rfl rfl rfl rfl en13 H ?_
          clear H
          rintro _ w ⟨rfl, S⟩
          refine ⟨_, rfl, rfl, fun a fr => ?_⟩
          refine wl_run orc_ok 3 rfl fr fun a fr => ?_
          refine wl_split 49 fr rfl h (fun fr h => ?_) (fun fr h => ?_)
          · refine wl_run orc_ok 27 rfl fr fun a fr => ?_
            refine wpList_nil ?_
            refine then_n ?_
            refine cw_t fr rfl ?_
            refine wp_seq ?_
            refine wp_region_lit ?_
            refine wl_run orc_ok 1 rfl fr fun a fr => ?_
            refine wpList_nil ?_
            refine then_n ?_
            refine wp_ret ?_
            refine then_r ?_
            injection h with h
            subst h
            refine ret1 fr rfl rfl ?_
            exact ⟨rfl, fr.vok (d := 0) rfl, S.mask [false, false, false, false]⟩
          · refine wl_run orc_ok 1 rfl fr fun a fr => ?_
            have S : Sat w0 _ [diskA g1 D18, logA g7 g1 x17, ownA .u8 5 A14 c15 (List.replicate (Int.toNat (100 : Int)) (0 : Int)), recsA .u8 22 5 A5 c6 p2] := S.frontAt 1 rfl
            have S : Sat w0 _ [logA g7 g1 x17, diskA g1 D18, ownA .u8 5 A14 c15 (List.replicate (Int.toNat (100 : Int)) (0 : Int)), recsA .u8 22 5 A5 c6 p2] := S.frontAt 1 rfl
            obtain ⟨hc, h⟩ := ifs h
            obtain ⟨y20, hn0, h⟩ := lt_h h
            have H := room_call S hc (show (Lit.int .i64 (57 : Int)).wf = true by decide)
            rw [hn0] at H
            refine wl_call fr rfl rfl rfl rfl en13 H ?_
            clear H
            rintro _ w ⟨rfl, S⟩
            refine ⟨_, rfl, rfl, fun a fr => ?_⟩
            refine wl_run orc_ok 2 rfl fr fun a fr => ?_
            refine wl_split 53 fr rfl h (fun fr h => ?_) (fun fr h => ?_)
            · refine wl_run orc_ok 23 rfl fr fun a fr => ?_
              refine wpList_nil ?_
              refine then_n ?_
              refine cw_t fr rfl ?_
              refine wp_seq ?_
              refine wp_region_lit ?_
              refine wl_run orc_ok 1 rfl fr fun a fr => ?_
              refine wpList_nil ?_
              refine then_n ?_
              refine wp_ret ?_
              refine then_r ?_
              injection h with h
              subst h
              refine ret1 fr rfl rfl ?_
              exact ⟨rfl, fr.vok (d := 0) rfl, S.mask [false, false, false, false]⟩
            · refine wl_run orc_ok 1 rfl fr fun a fr => ?_
              obtain ⟨hc, h⟩ := ifs h
              refine wl_make lit22 fr rfl rfl rfl rfl rfl rfl hc S ?_
              intro w A21 c22 S
              intro a fr
              have S : Sat w0 _ [diskA g1 D18, ownA .u8 5 A21 c22 (List.replicate (Int.toNat (57 : Int)) (0 : Int)), logA g7 g1 x17, ownA .u8 5 A14 c15 (List.replicate (Int.toNat (100 : Int)) (0 : Int)), recsA .u8 22 5 A5 c6 p2] := S.frontAt 2 rfl
              have S : Sat w0 _ [logA g7 g1 x17, diskA g1 D18, ownA .u8 5 A21 c22 (List.replicate (Int.toNat (57 : Int)) (0 : Int)), ownA .u8 5 A14 c15 (List.replicate (Int.toNat (100 : Int)) (0 : Int)), recsA .u8 22 5 A5 c6 p2] := S.frontAt 2 rfl
              obtain ⟨hc, h⟩ := ifs h
              obtain ⟨y23, hn0, h⟩ := lt_h h
              obtain ⟨x24, hn1, h⟩ := lt_h h
              obtain ⟨D25, hn2, h⟩ := lt_h h
              have H := add_callI (A := A21) (c := c22) (l := (List.replicate (Int.toNat (57 : Int)) (0 : Int))) S (Sat.ownAt S 2 rfl) (fr.slice (d := 55) rfl) hc
              rw [hn0, hn1, hn2] at H
              refine wl_call fr rfl rfl rfl rfl en11 H ?_
              clear H
              rintro _ w ⟨rfl, hv, S⟩
              refine ⟨_, rfl, hv, fun a fr => ?_⟩
              refine wl_run orc_ok 3 rfl fr fun a fr => ?_
              refine wl_split 59 fr rfl h (fun fr h => ?_) (fun fr h => ?_)
              · refine wl_run orc_ok 17 rfl fr fun a fr => ?_
                refine wpList_nil ?_
                refine then_n ?_
                refine cw_t fr rfl ?_
                refine wp_seq ?_
                refine wp_region_lit ?_
                refine wl_run orc_ok 1 rfl fr fun a fr => ?_
                refine wpList_nil ?_
                refine then_n ?_
                refine wp_ret ?_
                refine then_r ?_
                injection h with h
                subst h
                refine ret1 fr rfl rfl ?_
                exact ⟨rfl, fr.vok (d := 0) rfl, S.mask [false, false, false, false, false]⟩
              · refine wl_run orc_ok 1 rfl fr fun a fr => ?_
                obtain ⟨hc, h⟩ := ifs h
                refine wl_make lit22 fr rfl rfl rfl rfl rfl rfl hc S ?_
                intro w A26 c27 S
                intro a fr
                have S : Sat w0 _ [diskA g1 D25, ownA .u8 5 A26 c27 (List.replicate (Int.toNat (16385 : Int)) (0 : Int)), logA g7 g1 x24, ownA .u8 5 A21 c22 (List.replicate (Int.toNat (57 : Int)) (0 : Int)), ownA .u8 5 A14 c15 (List.replicate (Int.toNat (100 : Int)) (0 : Int)), recsA .u8 22 5 A5 c6 p2] := S.frontAt 2 rfl
                have S : Sat w0 _ [logA g7 g1 x24, diskA g1 D25, ownA .u8 5 A26 c27 (List.replicate (Int.toNat (16385 : Int)) (0 : Int)), ownA .u8 5 A21 c22 (List.replicate (Int.toNat (57 : Int)) (0 : Int)), ownA .u8 5 A14 c15 (List.replicate (Int.toNat (100 : Int)) (0 : Int)), recsA .u8 22 5 A5 c6 p2] := S.frontAt 2 rfl
                obtain ⟨hc, h⟩ := ifs h
                obtain ⟨y28, hn0, h⟩ := lt_h h
                obtain ⟨x29, hn1, h⟩ := lt_h h
                obtain ⟨D30, hn2, h⟩ := lt_h h
                have H := add_callI (A := A26) (c := c27) (l := (List.replicate (Int.toNat (16385 : Int)) (0 : Int))) S (Sat.ownAt S 2 rfl) (fr.slice (d := 61) rfl) hc
                rw [hn0, hn1, hn2] at H
                refine wl_call fr rfl rfl rfl rfl en11 H ?_
                clear H
                rintro _ w ⟨rfl, hv, S⟩
                refine ⟨_, rfl, hv, fun a fr => ?_⟩
                refine wl_run orc_ok 3 rfl fr fun a fr => ?_
                refine wl_split 65 fr rfl h (fun fr h => ?_) (fun fr h => ?_)
                · refine wl_run orc_ok 11 rfl fr fun a fr => ?_
                  refine wpList_nil ?_
                  refine then_n ?_
                  refine cw_t fr rfl ?_
                  refine wp_seq ?_
                  refine wp_region_lit ?_
                  refine wl_run orc_ok 1 rfl fr fun a fr => ?_
                  refine wpList_nil ?_
                  refine then_n ?_
                  refine wp_ret ?_
                  refine then_r ?_
                  injection h with h
                  subst h
                  refine ret1 fr rfl rfl ?_
                  exact ⟨rfl, fr.vok (d := 0) rfl, S.mask [false, false, false, false, false, false]⟩
                · refine wl_run orc_ok 1 rfl fr fun a fr => ?_
                  have S : Sat w0 _ [diskA g1 D30, logA g7 g1 x29, ownA .u8 5 A26 c27 (List.replicate (Int.toNat (16385 : Int)) (0 : Int)), ownA .u8 5 A21 c22 (List.replicate (Int.toNat (57 : Int)) (0 : Int)), ownA .u8 5 A14 c15 (List.replicate (Int.toNat (100 : Int)) (0 : Int)), recsA .u8 22 5 A5 c6 p2] := S.frontAt 1 rfl
                  have S : Sat w0 _ [logA g7 g1 x29, diskA g1 D30, ownA .u8 5 A26 c27 (List.replicate (Int.toNat (16385 : Int)) (0 : Int)), ownA .u8 5 A21 c22 (List.replicate (Int.toNat (57 : Int)) (0 : Int)), ownA .u8 5 A14 c15 (List.replicate (Int.toNat (100 : Int)) (0 : Int)), recsA .u8 22 5 A5 c6 p2] := S.frontAt 1 rfl
                  obtain ⟨D31, hn0, h⟩ := lt_h h
                  have H := force_call S
                  rw [hn0] at H
                  refine wl_call fr rfl rfl rfl rfl en12 H ?_
                  clear H
                  rintro _ w ⟨rfl, S⟩
                  refine ⟨_, rfl, rfl, fun a fr => ?_⟩
                  refine wl_run orc_ok 4 rfl fr fun a fr => ?_
                  refine wl_litc (xs := [(98 : Int)]) lit22 Try.underlying5 fr rfl rfl rfl rfl rfl rfl rfl rfl ⟨rfl, rfl, trivial⟩ rfl rfl rfl S ?_
                  intro w A33 c34 rq32 mq32 S a fr
                  have S : Sat w0 _ [diskA g1 D31, logA g7 g1 x29, ownA .u8 5 A26 c27 (List.replicate (Int.toNat (16385 : Int)) (0 : Int)), ownA .u8 5 A21 c22 (List.replicate (Int.toNat (57 : Int)) (0 : Int)), ownA .u8 5 A14 c15 (List.replicate (Int.toNat (100 : Int)) (0 : Int)), recsA .u8 22 5 A5 c6 p2] := S.frontAt 1 rfl
                  have S : Sat w0 _ [logA g7 g1 x29, diskA g1 D31, ownA .u8 5 A26 c27 (List.replicate (Int.toNat (16385 : Int)) (0 : Int)), ownA .u8 5 A21 c22 (List.replicate (Int.toNat (57 : Int)) (0 : Int)), ownA .u8 5 A14 c15 (List.replicate (Int.toNat (100 : Int)) (0 : Int)), recsA .u8 22 5 A5 c6 p2] := S.frontAt 1 rfl
                  obtain ⟨hc, h⟩ := ifs h
                  obtain ⟨y35, hn0, h⟩ := lt_h h
                  obtain ⟨x36, hn1, h⟩ := lt_h h
                  obtain ⟨D37, hn2, h⟩ := lt_h h
                  have H := add_callI (A := A33) (c := c34) (l := [(98 : Int)]) S rq32 (fr.slice (d := 73) rfl) hc
                  rw [hn0, hn1, hn2] at H
                  refine wl_call fr rfl rfl rfl rfl en11 H ?_
                  clear H
                  rintro _ w ⟨rfl, hv, S⟩
                  refine ⟨_, rfl, hv, fun a fr => ?_⟩
                  refine wl_run orc_ok 2 rfl fr fun a fr => ?_
                  refine wpList_nil ?_
                  refine then_n ?_
                  refine cw_if fr rfl h (fun h => ?_) (fun h => ?_)
                  · refine wp_seq ?_
                    refine wp_region_lit ?_
                    refine wl_run orc_ok 1 rfl fr fun a fr => ?_
                    refine wpList_nil ?_
                    refine then_n ?_
                    refine wp_ret ?_
                    refine then_r ?_
                    injection h with h
                    subst h
                    refine ret1 fr rfl rfl ?_
                    exact ⟨rfl, fr.vok (d := 0) rfl, S.mask [false, false, false, false, false, false]⟩
                  · refine wp_skip ?_
                    refine then_n ?_
                    refine wp_seq ?_
                    refine wp_region_lit ?_
                    refine wl_run orc_ok 1 rfl fr fun a fr => ?_
                    have S : Sat w0 _ [diskA g1 D37, logA g7 g1 x36, ownA .u8 5 A26 c27 (List.replicate (Int.toNat (16385 : Int)) (0 : Int)), ownA .u8 5 A21 c22 (List.replicate (Int.toNat (57 : Int)) (0 : Int)), ownA .u8 5 A14 c15 (List.replicate (Int.toNat (100 : Int)) (0 : Int)), recsA .u8 22 5 A5 c6 p2] := S.frontAt 1 rfl
                    obtain ⟨hc, h⟩ := ifs h
                    refine wl_call fr rfl rfl rfl rfl en18 (disk_fail S rfl rfl hc) ?_
                    rintro _ w ⟨g38, rfl, S⟩
                    refine ⟨_, rfl, rfl, fun a fr => ?_⟩
                    obtain ⟨D39, hx, h⟩ := lt_h h
                    rw [hx] at S
                    refine wl_run orc_ok 5 rfl fr fun a fr => ?_
                    refine wpList_nil ?_
                    refine then_n ?_
                    refine wp_seq ?_
                    refine wp_region_lit ?_
                    refine wl_run orc_ok 1 rfl fr fun a fr => ?_
                    obtain ⟨hc, h⟩ := ifs h
                    obtain ⟨p40, hn0, h⟩ := lt_h h
                    obtain ⟨x41, hn1, h⟩ := lt_h h
                    obtain ⟨D42, hn2, h⟩ := lt_h h
                    have H := open_call S hc
                    rw [hn0, hn1, hn2] at H
                    refine wl_call fr rfl rfl rfl rfl en14 H ?_
                    clear H
                    rintro _ w ⟨g45, A43, c44, rfl, hv, S⟩
                    refine ⟨_, rfl, hv, fun a fr => ?_⟩
                    refine wl_run orc_ok 7 rfl fr fun a fr => ?_
                    refine wpList_nil ?_
                    refine then_n ?_
                    refine wp_seq ?_
                    refine wp_region_lit ?_
                    refine wl_run orc_ok 1 rfl fr fun a fr => ?_
                    have S : Sat w0 _ [diskA g1 D37, logA g45 g38 x41, recsA .u8 22 5 A43 c44 p40, diskA g38 D42, logA g7 g1 x36, ownA .u8 5 A26 c27 (List.replicate (Int.toNat (16385 : Int)) (0 : Int)), ownA .u8 5 A21 c22 (List.replicate (Int.toNat (57 : Int)) (0 : Int)), ownA .u8 5 A14 c15 (List.replicate (Int.toNat (100 : Int)) (0 : Int)), recsA .u8 22 5 A5 c6 p2] := S.frontAt 3 rfl
                    obtain ⟨hc, h⟩ := ifs h
                    obtain ⟨p46, hn0, h⟩ := lt_h h
                    obtain ⟨x47, hn1, h⟩ := lt_h h
                    obtain ⟨D48, hn2, h⟩ := lt_h h
                    have H := open_call S hc
                    rw [hn0, hn1, hn2] at H
                    refine wl_call fr rfl rfl rfl rfl en14 H ?_
                    clear H
                    rintro _ w ⟨g51, A49, c50, rfl, hv, S⟩
                    refine ⟨_, rfl, hv, fun a fr => ?_⟩
                    refine wl_run orc_ok 7 rfl fr fun a fr => ?_
                    refine wpList_nil ?_
                    refine then_n ?_
                    refine wp_seq ?_
                    refine wp_region_lit ?_
                    refine wl_run orc_ok 16 rfl fr fun a fr => ?_
                    refine wl_split 109 fr rfl h (fun fr h => ?_) (fun fr h => ?_)
                    · refine wl_run orc_ok 1 rfl fr fun a fr => ?_
                      obtain ⟨hc, h⟩ := ifs h
                      obtain ⟨A53, c54, rq52, mq52, cq52⟩ := RR.get (Sat.recAt S 4 rfl).1 hc
                      refine wl_ldc orc_ok (i := (0 : Int)) (v := .slice A53 (List.length (List.getD p40 (Int.toNat (0 : Int)) [])) c54) cq52 (vok_sl mq52) fr rfl rfl rfl rfl rfl rfl rfl rfl rfl rfl rfl rfl rfl rfl rfl hc fun a fr => ?_
                      refine wl_val fr rfl rfl rfl (conv_exec fr rfl rfl rfl rq52) rfl fun a fr => ?_
                      refine wl_run orc_ok 3 rfl fr fun a fr => ?_
                      refine wl_split 116 fr rfl h (fun fr h => ?_) (fun fr h => ?_)
                      · refine wl_run orc_ok 1 rfl fr fun a fr => ?_
                        obtain ⟨hc, h⟩ := ifs h
                        obtain ⟨A56, c57, rq55, mq55, cq55⟩ := RR.get (Sat.recAt S 4 rfl).1 hc
                        refine wl_ldc orc_ok (i := (1 : Int)) (v := .slice A56 (List.length (List.getD p40 (Int.toNat (1 : Int)) [])) c57) cq55 (vok_sl mq55) fr rfl rfl rfl rfl rfl rfl rfl rfl rfl rfl rfl rfl rfl rfl rfl hc fun a fr => ?_
                        refine wl_run orc_ok 4 rfl fr fun a fr => ?_
                        refine wl_split 123 fr rfl h (fun fr h => ?_) (fun fr h => ?_)
                        · refine wl_run orc_ok 5 rfl fr fun a fr => ?_
                          refine wl_split 128 fr rfl h (fun fr h => ?_) (fun fr h => ?_)
                          · refine wl_run orc_ok 1 rfl fr fun a fr => ?_
                            obtain ⟨hc, h⟩ := ifs h
                            obtain ⟨A59, c60, rq58, mq58, cq58⟩ := RR.get (Sat.recAt S 1 rfl).1 hc
                            refine wl_ldc orc_ok (i := (2 : Int)) (v := .slice A59 (List.length (List.getD p46 (Int.toNat (2 : Int)) [])) c60) cq58 (vok_sl mq58) fr rfl rfl rfl rfl rfl rfl rfl rfl rfl rfl rfl rfl rfl rfl rfl hc fun a fr => ?_
                            refine wl_val fr rfl rfl rfl (conv_exec fr rfl rfl rfl rq58) rfl fun a fr => ?_
                            refine wl_run orc_ok 3 rfl fr fun a fr => ?_
                            obtain ⟨y61, hx, h⟩ := lt_h h
                            have fr := fr.spell (d := 0) rfl (congrArg Value.bool hx)
                            refine wpList_nil ?_
                            refine then_n ?_
                            refine wp_ret ?_
                            injection h with h
                            subst h
                            refine ret1 fr rfl rfl ?_
                            exact ⟨rfl, fr.vok (d := 0) rfl, S.mask [false, false, false, false, false, false, false, false, false, false, false]⟩
                          · refine wl_run orc_ok 7 rfl fr fun a fr => ?_
                            refine wpList_nil ?_
                            refine then_n ?_
                            refine wp_ret ?_
                            injection h with h
                            subst h
                            refine ret1 fr rfl rfl ?_
                            exact ⟨rfl, fr.vok (d := 0) rfl, S.mask [false, false, false, false, false, false, false, false, false, false, false]⟩
                        · refine wl_run orc_ok 12 rfl fr fun a fr => ?_
                          refine wpList_nil ?_
                          refine then_n ?_
                          refine wp_ret ?_
                          injection h with h
                          subst h
                          refine ret1 fr rfl rfl ?_
                          exact ⟨rfl, fr.vok (d := 0) rfl, S.mask [false, false, false, false, false, false, false, false, false, false, false]⟩
                      · refine wl_run orc_ok 19 rfl fr fun a fr => ?_
                        refine wpList_nil ?_
                        refine then_n ?_
                        refine wp_ret ?_
                        injection h with h
                        subst h
                        refine ret1 fr rfl rfl ?_
                        exact ⟨rfl, fr.vok (d := 0) rfl, S.mask [false, false, false, false, false, false, false, false, false, false, false]⟩
                    · refine wl_run orc_ok 26 rfl fr fun a fr => ?_
                      refine wpList_nil ?_
                      refine then_n ?_
                      refine wp_ret ?_
                      injection h with h
                      subst h
                      refine ret1 fr rfl rfl ?_
                      exact ⟨rfl, fr.vok (d := 0) rfl, S.mask [false, false, false, false, false, false, false, false, false, false, false]⟩
  exact (key w rfl (Sat.start w)).mono fun e w' ⟨h1, h2, h3⟩ => ⟨h1, h2, S.new h3.below⟩
set_option maxRecDepth 100000 in
set_option maxHeartbeats 4000000 in
theorem WallsMany.walk (k : Nat) (a0 : Int) (a1 : Int) {w0 w : World} {R : List Asn} (v0 : (Lit.int .u8 a0).wf = true) (v1 : (Lit.int .u8 a1).wf = true) (S : Sat w0 w R) {r : Bool} (h : WallsMany.f k a0 a1 = some r) :
    Calls Try.prog 8 #[(.int .u8 a0), (.int .u8 a1)] w fun e w' => e = .returned (.bool r) ∧ vok (.bool r) = true ∧ Sat w0 w' R := by
  have key : ∀ w0 : World, w0 = w → Sat w0 w [] → Calls Try.prog 8 #[(.int .u8 a0), (.int .u8 a1)] w fun e w' => e = .returned (.bool r) ∧ vok (.bool r) = true ∧ Sat w0 w' [] := by
    clear S
    intro w0 hw S
    clear hw
    unfold WallsMany.f at h
    refine calls_start (N := 99) [(.int .u8 a0), (.int .u8 a1)] Try.func8 rfl rfl rfl (vok_c v0 (vok_c v1 rfl)) fun a fr => ?_
    refine wp_seq ?_
    refine wp_region_lit ?_
    refine wl_run orc_ok 1 rfl fr fun a fr => ?_
    refine wpList_nil ?_
    refine then_n ?_
    refine wp_seq ?_
    refine wp_region_lit ?_
    refine wl_run orc_ok 4 rfl fr fun a fr => ?_
    obtain ⟨y1, hx, h⟩ := lt_h h
    have fr := fr.spell (d := 5) rfl (congrArg (Value.int .i64) hx)
    refine wpList_nil ?_
    refine then_n ?_
    refine wp_seq ?_
    refine wp_region_lit ?_
    refine wl_run orc_ok 1 rfl fr fun a fr => ?_
    obtain ⟨hc, h⟩ := ifs h
    obtain ⟨D2, hn0, h⟩ := lt_h h
    have H := disk_new S hc
    rw [hn0] at H
    refine wl_call fr rfl rfl rfl rfl en17 H ?_
    clear H
    rintro _ w ⟨g3, rfl, S⟩
    refine ⟨_, rfl, rfl, fun a fr => ?_⟩
    refine wl_run orc_ok 5 rfl fr fun a fr => ?_
    refine wpList_nil ?_
    refine then_n ?_
    refine wp_seq ?_
    refine wp_region_lit ?_
    refine wl_run orc_ok 1 rfl fr fun a fr => ?_
    obtain ⟨hc, h⟩ := ifs h
    obtain ⟨p4, hn0, h⟩ := lt_h h
    obtain ⟨x5, hn1, h⟩ := lt_h h
    obtain ⟨D6, hn2, h⟩ := lt_h h
    have H := open_call S hc
    rw [hn0, hn1, hn2] at H
    refine wl_call fr rfl rfl rfl rfl en14 H ?_
    clear H
    rintro _ w ⟨g9, A7, c8, rfl, hv, S⟩
    refine ⟨_, rfl, hv, fun a fr => ?_⟩
    refine wl_run orc_ok 7 rfl fr fun a fr => ?_
    refine wpList_nil ?_
    refine then_n ?_
    refine wp_seq ?_
    refine wp_seq ?_
    refine wp_region_lit ?_
    refine wl_run orc_ok 6 rfl fr fun a fr => ?_
    refine wpList_nil ?_
    refine then_n ?_
    refine cw_f fr rfl ?_
    refine wp_skip ?_
    refine then_n ?_
    refine wp_seq ?_
    refine wp_seq ?_
    refine wp_region_lit ?_
    refine wl_run orc_ok 1 rfl fr fun a fr => ?_
    refine wpList_nil ?_
    refine then_n ?_
    refine wp_block ?_
    have S : Sat w0 _ [logA g9 g3 x5, diskA g3 D6] := S.mask [true, false, true]
    have S : Sat w0 _ [diskA g3 D6, logA g9 g3 x5] := S.frontAt 1 rfl
    have S : Sat w0 _ [logA g9 g3 x5, diskA g3 D6] := S.frontAt 1 rfl
    refine cw_loop (fun k1 a w => ∃ g10 : Nat, ∃ x11 : Int, ∃ D12 : Dk, ∃ x13 : Int, Fr 99 a [(1, (.int .u8 a1)), (5, (.int .i64 y1)), (6, (.pointer (some ⟨g3, 0, none⟩))), (8, (.pointer (some ⟨g10, 0, none⟩))), (11, (.int .i64 x13))] ∧ Sat w0 w [logA g10 g3 x11, diskA g3 D12] ∧ (WallsMany.l1 k1 y1 a1 x11 D12 x13) = some r) k ⟨g9, x5, D6, (0 : Int), fr.sub ⟨rfl, rfl, rfl, rfl, rfl, trivial⟩, S, h⟩ ?_ ?_
    · rintro a w ⟨g10, x11, D12, x13, -, -, h⟩
      simp only [WallsMany.l1] at h
      cases h
    · rintro k1 a w ⟨g10, x11, D12, x13, fr, S, h⟩
      rw [WallsMany.l1] at h
      refine wp_seq ?_
      refine wp_seq ?_
      refine wp_region_lit ?_
      refine wl_run orc_ok 3 rfl fr fun a fr => ?_
      refine wpList_nil ?_
      refine then_n ?_
      refine cw_if fr rfl h (fun h => ?_) (fun h => ?_)
      · refine wp_skip ?_
        refine then_n ?_
        refine wp_seq ?_
        refine wp_block ?_
        refine cw_cut (fun a w => ∃ g18 : Nat, ∃ x19 : Int, ∃ D20 : Dk, Fr 99 a [(1, (.int .u8 a1)), (5, (.int .i64 y1)), (6, (.pointer (some ⟨g3, 0, none⟩))), (8, (.pointer (some ⟨g18, 0, none⟩))), (11, (.int .i64 x13))] ∧ Sat w0 w [logA g18 g3 x19, diskA g3 D20] ∧ (WallsMany.j1 (WallsMany.l1 k1 y1 a1) x13 x19 D20) = some r) ?_ ?_
        · refine wp_seq ?_
          refine wp_region_lit ?_
          refine wl_run orc_ok 4 rfl fr fun a fr => ?_
          refine wpList_nil ?_
          refine then_n ?_
          refine cw_if fr rfl h (fun h => ?_) (fun h => ?_)
          · refine wp_seq ?_
            refine wp_region_lit ?_
            refine wl_run orc_ok 1 rfl fr fun a fr => ?_
            have S : Sat w0 _ [diskA g3 D12, logA g10 g3 x11] := S.frontAt 1 rfl
            obtain ⟨hc, h⟩ := ifs h
            obtain ⟨p25, hn0, h⟩ := lt_h h
            obtain ⟨x26, hn1, h⟩ := lt_h h
            obtain ⟨D27, hn2, h⟩ := lt_h h
            have H := open_call S hc
            rw [hn0, hn1, hn2] at H
            refine wl_call fr rfl rfl rfl rfl en14 H ?_
            clear H
            rintro _ w ⟨g30, A28, c29, rfl, hv, S⟩
            refine ⟨_, rfl, hv, fun a fr => ?_⟩
            refine wl_run orc_ok 7 rfl fr fun a fr => ?_
            refine wpList_nil ?_
            refine then_n ?_
            refine wp_seq ?_
            refine wp_seq ?_
            refine wp_region_lit ?_
            refine wl_run orc_ok 8 rfl fr fun a fr => ?_
            refine wpList_nil ?_
            refine then_n ?_
            refine cw_if fr rfl h (fun h => ?_) (fun h => ?_)
            · cases h
            · refine wp_skip ?_
              refine then_n ?_
              refine wp_region_lit ?_
              refine wl_run orc_ok 1 rfl fr fun a fr => ?_
              have S : Sat w0 _ [logA g30 g3 x26, recsA .u8 22 5 A28 c29 p25, diskA g3 D27] := S.mask [true, true, true, false]
              refine wl_run orc_ok 1 rfl fr fun a fr => ?_
              refine wpList_nil ?_
              have S : Sat w0 _ [logA g30 g3 x26, diskA g3 D27] := S.mask [true, false, true]
              have S : Sat w0 _ [diskA g3 D27, logA g30 g3 x26] := S.frontAt 1 rfl
              have S : Sat w0 _ [logA g30 g3 x26, diskA g3 D27] := S.frontAt 1 rfl
              exact ⟨g30, x26, D27, fr.sub ⟨rfl, rfl, rfl, rfl, rfl, trivial⟩, S, h⟩
          · refine wp_skip ?_
            exact ⟨g10, x11, D12, fr.sub ⟨rfl, rfl, rfl, rfl, rfl, trivial⟩, S, h⟩
        · rintro a w ⟨g18, x19, D20, fr, S, h⟩
          rw [WallsMany.j1] at h
          refine wp_seq ?_
          refine wp_region_lit ?_
          refine wl_run orc_ok 1 rfl fr fun a fr => ?_
          have S : Sat w0 _ [diskA g3 D20, logA g18 g3 x19] := S.frontAt 1 rfl
          have S : Sat w0 _ [logA g18 g3 x19, diskA g3 D20] := S.frontAt 1 rfl
          obtain ⟨hc, h⟩ := ifs h
          obtain ⟨y21, hn0, h⟩ := lt_h h
          have H := room_call S hc (show (Lit.int .i64 (0 : Int)).wf = true by decide)
          rw [hn0] at H
          refine wl_call fr rfl rfl rfl rfl en13 H ?_
          clear H
          rintro _ w ⟨rfl, S⟩
          refine ⟨_, rfl, rfl, fun a fr => ?_⟩
          refine wl_run orc_ok 2 rfl fr fun a fr => ?_
          refine wl_split 65 fr rfl h (fun fr h => ?_) (fun fr h => ?_)
          · cases h
          · refine wl_run orc_ok 1 rfl fr fun a fr => ?_
            have S : Sat w0 _ [diskA g3 D20, logA g18 g3 x19] := S.frontAt 1 rfl
            have S : Sat w0 _ [logA g18 g3 x19, diskA g3 D20] := S.frontAt 1 rfl
            obtain ⟨hc, h⟩ := ifs h
            obtain ⟨y22, hn0, h⟩ := lt_h h
            obtain ⟨x23, hn1, h⟩ := lt_h h
            obtain ⟨D24, hn2, h⟩ := lt_h h
            have H := add_callI (A := none) (c := 0) (l := ([] : List Int)) S Rk.nil ⟨Nat.le_refl _, Nat.zero_le _⟩ hc
            rw [hn0, hn1, hn2] at H
            refine wl_call fr rfl rfl rfl rfl en11 H ?_
            clear H
            rintro _ w ⟨rfl, hv, S⟩
            refine ⟨_, rfl, hv, fun a fr => ?_⟩
            refine wl_run orc_ok 2 rfl fr fun a fr => ?_
            refine wpList_nil ?_
            refine then_n ?_
            refine cw_if fr rfl h (fun h => ?_) (fun h => ?_)
            · cases h
            · refine wp_skip ?_
              refine blk_n ?_
              refine then_n ?_
              refine wp_region_lit ?_
              refine wl_run orc_ok 3 rfl fr fun a fr => ?_
              refine wpList_nil ?_
              exact ⟨g18, x23, D24, (IntKind.wrap .i64 (x13 + (1 : Int))), fr.sub ⟨rfl, rfl, rfl, rfl, rfl, trivial⟩, S, h⟩
      · refine wp_exit ?_
        refine then_e ?_
        refine then_e ?_
        refine blk_y ?_
        refine then_n ?_
        refine wp_seq ?_
        refine wp_seq ?_
        refine wp_region_lit ?_
        refine wl_run orc_ok 1 rfl fr fun a fr => ?_
        have S : Sat w0 _ [diskA g3 D12, logA g10 g3 x11] := S.frontAt 1 rfl
        have S : Sat w0 _ [logA g10 g3 x11, diskA g3 D12] := S.frontAt 1 rfl
        obtain ⟨hc, h⟩ := ifs h
        obtain ⟨y31, hn0, h⟩ := lt_h h
        have H := room_call S hc (show (Lit.int .i64 (0 : Int)).wf = true by decide)
        rw [hn0] at H
        refine wl_call fr rfl rfl rfl rfl en13 H ?_
        clear H
        rintro _ w ⟨rfl, S⟩
        refine ⟨_, rfl, rfl, fun a fr => ?_⟩
        refine wl_run orc_ok 1 rfl fr fun a fr => ?_
        refine wl_split 72 fr rfl h (fun fr h => ?_) (fun fr h => ?_)
        · cases h
        · refine wl_run orc_ok 1 rfl fr fun a fr => ?_
          have S : Sat w0 _ [diskA g3 D12, logA g10 g3 x11] := S.frontAt 1 rfl
          have S : Sat w0 _ [logA g10 g3 x11, diskA g3 D12] := S.frontAt 1 rfl
          obtain ⟨hc, h⟩ := ifs h
          obtain ⟨y32, hn0, h⟩ := lt_h h
          obtain ⟨x33, hn1, h⟩ := lt_h h
          obtain ⟨D34, hn2, h⟩ := lt_h h
          have H := add_callI (A := none) (c := 0) (l := ([] : List Int)) S Rk.nil ⟨Nat.le_refl _, Nat.zero_le _⟩ hc
          rw [hn0, hn1, hn2] at H
          refine wl_call fr rfl rfl rfl rfl en11 H ?_
          clear H
          rintro _ w ⟨rfl, hv, S⟩
          refine ⟨_, rfl, hv, fun a fr => ?_⟩
          refine wl_run orc_ok 3 rfl fr fun a fr => ?_
          refine wl_split 77 fr rfl h (fun fr h => ?_) (fun fr h => ?_)
          · cases h
          · refine wl_run orc_ok 1 rfl fr fun a fr => ?_
            have S : Sat w0 _ [diskA g3 D34, logA g10 g3 x33] := S.frontAt 1 rfl
            have S : Sat w0 _ [logA g10 g3 x33, diskA g3 D34] := S.frontAt 1 rfl
            obtain ⟨D35, hn0, h⟩ := lt_h h
            have H := force_call S
            rw [hn0] at H
            refine wl_call fr rfl rfl rfl rfl en12 H ?_
            clear H
            rintro _ w ⟨rfl, S⟩
            refine ⟨_, rfl, rfl, fun a fr => ?_⟩
            refine wl_run orc_ok 2 rfl fr fun a fr => ?_
            refine wpList_nil ?_
            refine then_n ?_
            refine cw_f fr rfl ?_
            refine wp_skip ?_
            refine then_n ?_
            refine wp_seq ?_
            refine wp_region_lit ?_
            refine wl_run orc_ok 1 rfl fr fun a fr => ?_
            have S : Sat w0 _ [diskA g3 D35, logA g10 g3 x33] := S.frontAt 1 rfl
            obtain ⟨hc, h⟩ := ifs h
            obtain ⟨p36, hn0, h⟩ := lt_h h
            obtain ⟨x37, hn1, h⟩ := lt_h h
            obtain ⟨D38, hn2, h⟩ := lt_h h
            have H := open_call S hc
            rw [hn0, hn1, hn2] at H
            refine wl_call fr rfl rfl rfl rfl en14 H ?_
            clear H
            rintro _ w ⟨g41, A39, c40, rfl, hv, S⟩
            refine ⟨_, rfl, hv, fun a fr => ?_⟩
            refine wl_run orc_ok 7 rfl fr fun a fr => ?_
            refine wpList_nil ?_
            refine then_n ?_
            refine wp_seq ?_
            refine wp_region_lit ?_
            obtain ⟨r42, hr, h⟩ := bnd h
            refine wl_call fr rfl rfl rfl rfl en15 (alive.walk  S hr) ?_
            rintro _ w ⟨rfl, hv, S⟩
            refine ⟨_, rfl, hv, fun a fr => ?_⟩
            refine wl_run orc_ok 1 rfl fr fun a fr => ?_
            refine wl_split 89 fr rfl h (fun fr h => ?_) (fun fr h => ?_)
            · refine wl_run orc_ok 10 rfl fr fun a fr => ?_
              obtain ⟨y43, hx, h⟩ := lt_h h
              have fr := fr.spell (d := 4) rfl (congrArg Value.bool hx)
              refine wpList_nil ?_
              refine then_n ?_
              refine wp_ret ?_
              injection h with h
              subst h
              refine ret1 fr rfl rfl ?_
              exact ⟨rfl, fr.vok (d := 4) rfl, S.mask [false, false, false, false]⟩
            · cases h
  exact (key w rfl (Sat.start w)).mono fun e w' ⟨h1, h2, h3⟩ => ⟨h1, h2, S.new h3.below⟩
end Go.Proofs.Ytmpkoacpakepfaa.Pl
