/- Walks over the program's functions, printed by a program of this work (wip/tools/shal.py): each call does what the plain function says. -/
import Derived.Test.YtmpkoacpakepfaaProg
import Derived.Test.YtmpkoacpakepfaaRk
import Derived.Test.YtmpkoacpakepfaaPool
import Derived.Test.YtmpkoacpakepfaaSo
import Derived.Test.YtmpkoacpakepfaaDWallsAll
namespace Go.Proofs.Ytmpkoacpakepfaa.Pl
open Go Go.RowKit Sx Base Own Disk Bytes

def orc : Orc := ⟨[(5, .int .u8), (9, .string), (22, .slice 5), (34, .slice 22)],
  [(5, 1), (22, 1)]⟩
theorem orc_ok : orc.Ok Try.prog := ⟨⟨Try.underlying5, Try.underlying9, Try.underlying22, Try.underlying34, trivial⟩, ⟨by kernel_rfl, by kernel_rfl, trivial⟩⟩
theorem en11 : Enters Try.prog 11 := fun _ _ => by kernel_rfl
theorem en12 : Enters Try.prog 12 := fun _ _ => by kernel_rfl
theorem en13 : Enters Try.prog 13 := fun _ _ => by kernel_rfl
theorem en14 : Enters Try.prog 14 := fun _ _ => by kernel_rfl
theorem en15 : Enters Try.prog 15 := fun _ _ => by kernel_rfl
theorem en16 : Enters Try.prog 16 := fun _ _ => by kernel_rfl
theorem en17 : Enters Try.prog 17 := fun _ _ => by kernel_rfl
theorem en18 : Enters Try.prog 18 := fun _ _ => by kernel_rfl
theorem en19 : Enters Try.prog 19 := fun _ _ => by kernel_rfl
theorem en21 : Enters Try.prog 21 := fun _ _ => by kernel_rfl
theorem lit22 : RowTy Try.prog 22 5 .u8 := ⟨Try.underlying22, 1, by decide, by kernel_rfl⟩
set_option maxRecDepth 100000 in
set_option maxHeartbeats 4000000 in
theorem alive.walk  {w0 w : World} {R : List Asn}  (S : Sat w0 w R) {r : Bool} (h : alive.f = some r) :
    Calls Try.prog 15 #[] w fun e w' => e = .returned (.bool r) ∧ vok (.bool r) = true ∧ Sat w0 w' R := by
  have key : ∀ w0 : World, w0 = w → Sat w0 w [] → Calls Try.prog 15 #[] w fun e w' => e = .returned (.bool r) ∧ vok (.bool r) = true ∧ Sat w0 w' [] := by
    clear S
    intro w0 hw S
    clear hw
    unfold alive.f at h
    refine calls_start (N := 135) [] Try.func15 rfl rfl rfl rfl fun a fr => ?_
    refine wp_seq ?_
    refine wp_region_lit ?_
    refine wl_run orc_ok 1 rfl fr fun a fr => ?_
    refine wpList_nil ?_
    refine then_n ?_
    refine wp_seq ?_
    refine wp_region_lit ?_
    have hc : (1 ≤ (4 : Int) ∧ (4 : Int) ≤ (4096 : Int)) := by decide
    refine wl_call fr rfl rfl rfl rfl en17 (disk_new S hc) ?_
    rintro _ w ⟨g1, rfl, S⟩
    refine ⟨_, rfl, rfl, fun a fr => ?_⟩
    refine wl_run orc_ok 5 rfl fr fun a fr => ?_
    refine wpList_nil ?_
    refine then_n ?_
    refine wp_seq ?_
    refine wp_region_lit ?_
    refine wl_run orc_ok 1 rfl fr fun a fr => ?_
    obtain ⟨hc, h⟩ := ifs h
    obtain ⟨p2, hn0, h⟩ := lt_h h
    obtain ⟨x3, hn1, h⟩ := lt_h h
    obtain ⟨D4, hn2, h⟩ := lt_h h
    have H := open_call S hc
    rw [hn0, hn1, hn2] at H
    refine wl_call fr rfl rfl rfl rfl en14 H ?_
    clear H
    rintro _ w ⟨g7, A5, c6, rfl, hv, S⟩
    refine ⟨_, rfl, hv, fun a fr => ?_⟩
    refine wl_run orc_ok 7 rfl fr fun a fr => ?_
    refine wpList_nil ?_
    refine then_n ?_
    refine wp_seq ?_
    refine wp_seq ?_
    refine wp_region_lit ?_
    refine wl_run orc_ok 8 rfl fr fun a fr => ?_
    refine wl_split 31 fr rfl h (fun fr h => ?_) (fun fr h => ?_)
    · refine wl_run orc_ok 45 rfl fr fun a fr => ?_
      refine wpList_nil ?_
      refine then_n ?_
      refine cw_t fr rfl ?_
      refine wp_seq ?_
      refine wp_region_lit ?_
      refine wl_run orc_ok 1 rfl fr fun a fr => ?_
      refine wpList_nil ?_
      refine then_n ?_
      refine wp_ret ?_
      refine then_r ?_
      injection h with h
      subst h
      refine ret1 fr rfl rfl ?_
      exact ⟨rfl, fr.vok (d := 0) rfl, S.mask [false, false, false]⟩
    · refine wl_run orc_ok 1 rfl fr fun a fr => ?_
      refine wl_litc (xs := [(97 : Int)]) lit22 Try.underlying5 fr rfl rfl rfl rfl rfl rfl rfl rfl ⟨rfl, rfl, trivial⟩ rfl rfl rfl S ?_
      intro w A9 c10 rq8 mq8 S a fr
      have S : Sat w0 _ [diskA g1 D4, logA g7 g1 x3, recsA .u8 22 5 A5 c6 p2] := S.frontAt 2 rfl
      have S : Sat w0 _ [logA g7 g1 x3, diskA g1 D4, recsA .u8 22 5 A5 c6 p2] := S.frontAt 1 rfl
      obtain ⟨hc, h⟩ := ifs h
      obtain ⟨y11, hn0, h⟩ := lt_h h
      obtain ⟨x12, hn1, h⟩ := lt_h h
      obtain ⟨D13, hn2, h⟩ := lt_h h
      have H := add_callI (A := A9) (c := c10) (l := [(97 : Int)]) S rq8 (fr.slice (d := 34) rfl) hc
      rw [hn0, hn1, hn2] at H
      refine wl_call fr rfl rfl rfl rfl en11 H ?_
      clear H
      rintro _ w ⟨rfl, hv, S⟩
      refine ⟨_, rfl, hv, fun a fr => ?_⟩
      refine wl_run orc_ok 3 rfl fr fun a fr => ?_
      refine wl_split 38 fr rfl h (fun fr h => ?_) (fun fr h => ?_)
      · refine wl_run orc_ok 38 rfl fr fun a fr => ?_
        refine wpList_nil ?_
        refine then_n ?_
        refine cw_t fr rfl ?_
        refine wp_seq ?_
        refine wp_region_lit ?_
        refine wl_run orc_ok 1 rfl fr fun a fr => ?_
        refine wpList_nil ?_
        refine then_n ?_
        refine wp_ret ?_
        refine then_r ?_
        injection h with h
        subst h
        refine ret1 fr rfl rfl ?_
        exact ⟨rfl, fr.vok (d := 0) rfl, S.mask [false, false, false]⟩
      · refine wl_run orc_ok 1 rfl fr fun a fr => ?_
        obtain ⟨hc, h⟩ := ifs h
        refine wl_make lit22 fr rfl rfl rfl rfl rfl rfl hc S ?_
        intro w A14 c15 S
        intro a fr
        have S : Sat w0 _ [diskA g1 D13, ownA .u8 5 A14 c15 (List.replicate (Int.toNat (100 : Int)) (0 : Int)), logA g7 g1 x12, recsA .u8 22 5 A5 c6 p2] := S.frontAt 2 rfl
        have S : Sat w0 _ [logA g7 g1 x12, diskA g1 D13, ownA .u8 5 A14 c15 (List.replicate (Int.toNat (100 : Int)) (0 : Int)), recsA .u8 22 5 A5 c6 p2] := S.frontAt 2 rfl
        obtain ⟨hc, h⟩ := ifs h
        obtain ⟨y16, hn0, h⟩ := lt_h h
        obtain ⟨x17, hn1, h⟩ := lt_h h
        obtain ⟨D18, hn2, h⟩ := lt_h h
        have H := add_callI (A := A14) (c := c15) (l := (List.replicate (Int.toNat (100 : Int)) (0 : Int))) S (Sat.ownAt S 2 rfl) (fr.slice (d := 40) rfl) hc
        rw [hn0, hn1, hn2] at H
        refine wl_call fr rfl rfl rfl rfl en11 H ?_
        clear H
        rintro _ w ⟨rfl, hv, S⟩
        refine ⟨_, rfl, hv, fun a fr => ?_⟩
        refine wl_run orc_ok 3 rfl fr fun a fr => ?_
        refine wl_split 44 fr rfl h (fun fr h => ?_) (fun fr h => ?_)
        · refine wl_run orc_ok 32 rfl fr fun a fr => ?_
          refine wpList_nil ?_
          refine then_n ?_
          refine cw_t fr rfl ?_
          refine wp_seq ?_
          refine wp_region_lit ?_
          refine wl_run orc_ok 1 rfl fr fun a fr => ?_
          refine wpList_nil ?_
          refine then_n ?_
          refine wp_ret ?_
          refine then_r ?_
          injection h with h
          subst h
          refine ret1 fr rfl rfl ?_
          exact ⟨rfl, fr.vok (d := 0) rfl, S.mask [false, false, false, false]⟩
        · refine wl_run orc_ok 1 rfl fr fun a fr => ?_
          have S : Sat w0 _ [diskA g1 D18, logA g7 g1 x17, ownA .u8 5 A14 c15 (List.replicate (Int.toNat (100 : Int)) (0 : Int)), recsA .u8 22 5 A5 c6 p2] := S.frontAt 1 rfl
          have S : Sat w0 _ [logA g7 g1 x17, diskA g1 D18, ownA .u8 5 A14 c15 (List.replicate (Int.toNat (100 : Int)) (0 : Int)), recsA .u8 22 5 A5 c6 p2] := S.frontAt 1 rfl
          obtain ⟨hc, h⟩ := ifs h
          obtain ⟨y19, hn0, h⟩ := lt_h h
          have H := room_call S hc (show (Lit.int .i64 (56 : Int)).wf = true by decide)
          rw [hn0] at H
          refine wl_call fr rfl rfl rfl rfl en13 H ?_
          clear H
          rintro _ w ⟨rfl, S⟩
          refine ⟨_, rfl, rfl, fun a fr => ?_⟩
          refine wl_run orc_ok 3 rfl fr fun a fr => ?_
          refine wl_split 49 fr rfl h (fun fr h => ?_) (fun fr h => ?_)
          · refine wl_run orc_ok 27 rfl fr fun a fr => ?_
            refine wpList_nil ?_
            refine then_n ?_
            refine cw_t fr rfl ?_
            refine wp_seq ?_
            refine wp_region_lit ?_
            refine wl_run orc_ok 1 rfl fr fun a fr => ?_
            refine wpList_nil ?_
            refine then_n ?_
            refine wp_ret ?_
            refine then_r ?_
            injection h with h
            subst h
            refine ret1 fr rfl rfl ?_
            exact ⟨rfl, fr.vok (d := 0) rfl, S.mask [false, false, false, false]⟩
          · refine wl_run orc_ok 1 rfl fr fun a fr => ?_
            have S : Sat w0 _ [diskA g1 D18, logA g7 g1 x17, ownA .u8 5 A14 c15 (List.replicate (Int.toNat (100 : Int)) (0 : Int)), recsA .u8 22 5 A5 c6 p2] := S.frontAt 1 rfl
            have S : Sat w0 _ [logA g7 g1 x17, diskA g1 D18, ownA .u8 5 A14 c15 (List.replicate (Int.toNat (100 : Int)) (0 : Int)), recsA .u8 22 5 A5 c6 p2] := S.frontAt 1 rfl
            obtain ⟨hc, h⟩ := ifs h
            obtain ⟨y20, hn0, h⟩ := lt_h h
            have H := room_call S hc (show (Lit.int .i64 (57 : Int)).wf = true by decide)
            rw [hn0] at H
            refine wl_call fr rfl rfl rfl rfl en13 H ?_
            clear H
            rintro _ w ⟨rfl, S⟩
            refine ⟨_, rfl, rfl, fun a fr => ?_⟩
            refine wl_run orc_ok 2 rfl fr fun a fr => ?_
            refine wl_split 53 fr rfl h (fun fr h => ?_) (fun fr h => ?_)
            · refine wl_run orc_ok 23 rfl fr fun a fr => ?_
              refine wpList_nil ?_
              refine then_n ?_
              refine cw_t fr rfl ?_
              refine wp_seq ?_
              refine wp_region_lit ?_
              refine wl_run orc_ok 1 rfl fr fun a fr => ?_
              refine wpList_nil ?_
              refine then_n ?_
              refine wp_ret ?_
              refine then_r ?_
              injection h with h
              subst h
              refine ret1 fr rfl rfl ?_
              exact ⟨rfl, fr.vok (d := 0) rfl, S.mask [false, false, false, false]⟩
            · refine wl_run orc_ok 1 rfl fr fun a fr => ?_
              obtain ⟨hc, h⟩ := ifs h
              refine wl_make lit22 fr rfl rfl rfl rfl rfl rfl hc S ?_
              intro w A21 c22 S
              intro a fr
              have S : Sat w0 _ [diskA g1 D18, ownA .u8 5 A21 c22 (List.replicate (Int.toNat (57 : Int)) (0 : Int)), logA g7 g1 x17, ownA .u8 5 A14 c15 (List.replicate (Int.toNat (100 : Int)) (0 : Int)), recsA .u8 22 5 A5 c6 p2] := S.frontAt 2 rfl
              have S : Sat w0 _ [logA g7 g1 x17, diskA g1 D18, ownA .u8 5 A21 c22 (List.replicate (Int.toNat (57 : Int)) (0 : Int)), ownA .u8 5 A14 c15 (List.replicate (Int.toNat (100 : Int)) (0 : Int)), recsA .u8 22 5 A5 c6 p2] := S.frontAt 2 rfl
              obtain ⟨hc, h⟩ := ifs h
              obtain ⟨y23, hn0, h⟩ := lt_h h
              obtain ⟨x24, hn1, h⟩ := lt_h h
              obtain ⟨D25, hn2, h⟩ := lt_h h
              have H := add_callI (A := A21) (c := c22) (l := (List.replicate (Int.toNat (57 : Int)) (0 : Int))) S (Sat.ownAt S 2 rfl) (fr.slice (d := 55) rfl) hc
              rw [hn0, hn1, hn2] at H
              refine wl_call fr rfl rfl rfl rfl en11 H ?_
              clear H
              rintro _ w ⟨rfl, hv, S⟩
              refine ⟨_, rfl, hv, fun a fr => ?_⟩
              refine wl_run orc_ok 3 rfl fr fun a fr => ?_
              refine wl_split 59 fr rfl h (fun fr h => ?_) (fun fr h => ?_)
              · refine wl_run orc_ok 17 rfl fr fun a fr => ?_
                refine wpList_nil ?_
                refine then_n ?_
                refine cw_t fr rfl ?_
                refine wp_seq ?_
                refine wp_region_lit ?_
                refine wl_run orc_ok 1 rfl fr fun a fr => ?_
                refine wpList_nil ?_
                refine then_n ?_
                refine wp_ret ?_
                refine then_r ?_
                injection h with h
                subst h
                refine ret1 fr rfl rfl ?_
                exact ⟨rfl, fr.vok (d := 0) rfl, S.mask [false, false, false, false, false]⟩
              · refine wl_run orc_ok 1 rfl fr fun a fr => ?_
                obtain ⟨hc, h⟩ := ifs h
                refine wl_make lit22 fr rfl rfl rfl rfl rfl rfl hc S ?_
                intro w A26 c27 S
                intro a fr
                have S : Sat w0 _ [diskA g1 D25, ownA .u8 5 A26 c27 (List.replicate (Int.toNat (16385 : Int)) (0 : Int)), logA g7 g1 x24, ownA .u8 5 A21 c22 (List.replicate (Int.toNat (57 : Int)) (0 : Int)), ownA .u8 5 A14 c15 (List.replicate (Int.toNat (100 : Int)) (0 : Int)), recsA .u8 22 5 A5 c6 p2] := S.frontAt 2 rfl
                have S : Sat w0 _ [logA g7 g1 x24, diskA g1 D25, ownA .u8 5 A26 c27 (List.replicate (Int.toNat (16385 : Int)) (0 : Int)), ownA .u8 5 A21 c22 (List.replicate (Int.toNat (57 : Int)) (0 : Int)), ownA .u8 5 A14 c15 (List.replicate (Int.toNat (100 : Int)) (0 : Int)), recsA .u8 22 5 A5 c6 p2] := S.frontAt 2 rfl
                obtain ⟨hc, h⟩ := ifs h
                obtain ⟨y28, hn0, h⟩ := lt_h h
                obtain ⟨x29, hn1, h⟩ := lt_h h
                obtain ⟨D30, hn2, h⟩ := lt_h h
                have H := add_callI (A := A26) (c := c27) (l := (List.replicate (Int.toNat (16385 : Int)) (0 : Int))) S (Sat.ownAt S 2 rfl) (fr.slice (d := 61) rfl) hc
                rw [hn0, hn1, hn2] at H
                refine wl_call fr rfl rfl rfl rfl en11 H ?_
                clear H
                rintro _ w ⟨rfl, hv, S⟩
                refine ⟨_, rfl, hv, fun a fr => ?_⟩
                refine wl_run orc_ok 3 rfl fr fun a fr => ?_
                refine wl_split 65 fr rfl h (fun fr h => ?_) (fun fr h => ?_)
                · refine wl_run orc_ok 11 rfl fr fun a fr => ?_
                  refine wpList_nil ?_
                  refine then_n ?_
                  refine cw_t fr rfl ?_
                  refine wp_seq ?_
                  refine wp_region_lit ?_
                  refine wl_run orc_ok 1 rfl fr fun a fr => ?_
                  refine wpList_nil ?_
                  refine then_n ?_
                  refine wp_ret ?_
                  refine then_r ?_
                  injection h with h
                  subst h
                  refine ret1 fr rfl rfl ?_
                  exact ⟨rfl, fr.vok (d := 0) rfl, S.mask [false, false, false, false, false, false]⟩
                · refine wl_run orc_ok 1 rfl fr fun a fr => ?_
                  have S : Sat w0 _ [diskA g1 D30, logA g7 g1 x29, ownA .u8 5 A26 c27 (List.replicate (Int.toNat (16385 : Int)) (0 : Int)), ownA .u8 5 A21 c22 (List.replicate (Int.toNat (57 : Int)) (0 : Int)), ownA .u8 5 A14 c15 (List.replicate (Int.toNat (100 : Int)) (0 : Int)), recsA .u8 22 5 A5 c6 p2] := S.frontAt 1 rfl
                  have S : Sat w0 _ [logA g7 g1 x29, diskA g1 D30, ownA .u8 5 A26 c27 (List.replicate (Int.toNat (16385 : Int)) (0 : Int)), ownA .u8 5 A21 c22 (List.replicate (Int.toNat (57 : Int)) (0 : Int)), ownA .u8 5 A14 c15 (List.replicate (Int.toNat (100 : Int)) (0 : Int)), recsA .u8 22 5 A5 c6 p2] := S.frontAt 1 rfl
                  obtain ⟨D31, hn0, h⟩ := lt_h h
                  have H := force_call S
                  rw [hn0] at H
                  refine wl_call fr rfl rfl rfl rfl en12 H ?_
                  clear H
                  rintro _ w ⟨rfl, S⟩
                  refine ⟨_, rfl, rfl, fun a fr => ?_⟩
                  refine wl_run orc_ok 4 rfl fr fun a fr => ?_
                  refine wl_litc (xs := [(98 : Int)]) lit22 Try.underlying5 fr rfl rfl rfl rfl rfl rfl rfl rfl ⟨rfl, rfl, trivial⟩ rfl rfl rfl S ?_
                  intro w A33 c34 rq32 mq32 S a fr
                  have S : Sat w0 _ [diskA g1 D31, logA g7 g1 x29, ownA .u8 5 A26 c27 (List.replicate (Int.toNat (16385 : Int)) (0 : Int)), ownA .u8 5 A21 c22 (List.replicate (Int.toNat (57 : Int)) (0 : Int)), ownA .u8 5 A14 c15 (List.replicate (Int.toNat (100 : Int)) (0 : Int)), recsA .u8 22 5 A5 c6 p2] := S.frontAt 1 rfl
                  have S : Sat w0 _ [logA g7 g1 x29, diskA g1 D31, ownA .u8 5 A26 c27 (List.replicate (Int.toNat (16385 : Int)) (0 : Int)), ownA .u8 5 A21 c22 (List.replicate (Int.toNat (57 : Int)) (0 : Int)), ownA .u8 5 A14 c15 (List.replicate (Int.toNat (100 : Int)) (0 : Int)), recsA .u8 22 5 A5 c6 p2] := S.frontAt 1 rfl
                  obtain ⟨hc, h⟩ := ifs h
                  obtain ⟨y35, hn0, h⟩ := lt_h h
                  obtain ⟨x36, hn1, h⟩ := lt_h h
                  obtain ⟨D37, hn2, h⟩ := lt_h h
                  have H := add_callI (A := A33) (c := c34) (l := [(98 : Int)]) S rq32 (fr.slice (d := 73) rfl) hc
                  rw [hn0, hn1, hn2] at H
                  refine wl_call fr rfl rfl rfl rfl en11 H ?_
                  clear H
                  rintro _ w ⟨rfl, hv, S⟩
                  refine ⟨_, rfl, hv, fun a fr => ?_⟩
                  refine wl_run orc_ok 2 rfl fr fun a fr => ?_
                  refine wpList_nil ?_
                  refine then_n ?_
                  refine cw_if fr rfl h (fun h => ?_) (fun h => ?_)
                  · refine wp_seq ?_
                    refine wp_region_lit ?_
                    refine wl_run orc_ok 1 rfl fr fun a fr => ?_
                    refine wpList_nil ?_
                    refine then_n ?_
                    refine wp_ret ?_
                    refine then_r ?_
                    injection h with h
                    subst h
                    refine ret1 fr rfl rfl ?_
                    exact ⟨rfl, fr.vok (d := 0) rfl, S.mask [false, false, false, false, false, false]⟩
                  · refine wp_skip ?_
                    refine then_n ?_
                    refine wp_seq ?_
                    refine wp_region_lit ?_
                    refine wl_run orc_ok 1 rfl fr fun a fr => ?_
                    have S : Sat w0 _ [diskA g1 D37, logA g7 g1 x36, ownA .u8 5 A26 c27 (List.replicate (Int.toNat (16385 : Int)) (0 : Int)), ownA .u8 5 A21 c22 (List.replicate (Int.toNat (57 : Int)) (0 : Int)), ownA .u8 5 A14 c15 (List.replicate (Int.toNat (100 : Int)) (0 : Int)), recsA .u8 22 5 A5 c6 p2] := S.frontAt 1 rfl
                    obtain ⟨hc, h⟩ := ifs h
                    refine wl_call fr rfl rfl rfl rfl en18 (disk_fail S rfl rfl hc) ?_
                    rintro _ w ⟨g38, rfl, S⟩
                    refine ⟨_, rfl, rfl, fun a fr => ?_⟩
                    obtain ⟨D39, hx, h⟩ := lt_h h
                    rw [hx] at S
                    refine wl_run orc_ok 5 rfl fr fun a fr => ?_
                    refine wpList_nil ?_
                    refine then_n ?_
                    refine wp_seq ?_
                    refine wp_region_lit ?_
                    refine wl_run orc_ok 1 rfl fr fun a fr => ?_
                    obtain ⟨hc, h⟩ := ifs h
                    obtain ⟨p40, hn0, h⟩ := lt_h h
                    obtain ⟨x41, hn1, h⟩ := lt_h h
                    obtain ⟨D42, hn2, h⟩ := lt_h h
                    have H := open_call S hc
                    rw [hn0, hn1, hn2] at H
                    refine wl_call fr rfl rfl rfl rfl en14 H ?_
                    clear H
                    rintro _ w ⟨g45, A43, c44, rfl, hv, S⟩
                    refine ⟨_, rfl, hv, fun a fr => ?_⟩
                    refine wl_run orc_ok 7 rfl fr fun a fr => ?_
                    refine wpList_nil ?_
                    refine then_n ?_
                    refine wp_seq ?_
                    refine wp_region_lit ?_
                    refine wl_run orc_ok 1 rfl fr fun a fr => ?_
                    have S : Sat w0 _ [diskA g1 D37, logA g45 g38 x41, recsA .u8 22 5 A43 c44 p40, diskA g38 D42, logA g7 g1 x36, ownA .u8 5 A26 c27 (List.replicate (Int.toNat (16385 : Int)) (0 : Int)), ownA .u8 5 A21 c22 (List.replicate (Int.toNat (57 : Int)) (0 : Int)), ownA .u8 5 A14 c15 (List.replicate (Int.toNat (100 : Int)) (0 : Int)), recsA .u8 22 5 A5 c6 p2] := S.frontAt 3 rfl
                    obtain ⟨hc, h⟩ := ifs h
                    obtain ⟨p46, hn0, h⟩ := lt_h h
                    obtain ⟨x47, hn1, h⟩ := lt_h h
                    obtain ⟨D48, hn2, h⟩ := lt_h h
                    have H := open_call S hc
                    rw [hn0, hn1, hn2] at H
                    refine wl_call fr rfl rfl rfl rfl en14 H ?_
                    clear H
                    rintro _ w ⟨g51, A49, c50, rfl, hv, S⟩
                    refine ⟨_, rfl, hv, fun a fr => ?_⟩
                    refine wl_run orc_ok 7 rfl fr fun a fr => ?_
                    refine wpList_nil ?_
                    refine then_n ?_
                    refine wp_seq ?_
                    refine wp_region_lit ?_
                    refine wl_run orc_ok 16 rfl fr fun a fr => ?_
                    refine wl_split 109 fr rfl h (fun fr h => ?_) (fun fr h => ?_)
                    · refine wl_run orc_ok 1 rfl fr fun a fr => ?_
                      obtain ⟨hc, h⟩ := ifs h
                      obtain ⟨A53, c54, rq52, mq52, cq52⟩ := RR.get (Sat.recAt S 4 rfl).1 hc
                      refine wl_ldc orc_ok (i := (0 : Int)) (v := .slice A53 (List.length (List.getD p40 (Int.toNat (0 : Int)) [])) c54) cq52 (vok_sl mq52) fr rfl rfl rfl rfl rfl rfl rfl rfl rfl rfl rfl rfl rfl rfl rfl hc fun a fr => ?_
                      refine wl_val fr rfl rfl rfl (conv_exec fr rfl rfl rfl rq52) rfl fun a fr => ?_
                      refine wl_run orc_ok 3 rfl fr fun a fr => ?_
                      refine wl_split 116 fr rfl h (fun fr h => ?_) (fun fr h => ?_)
                      · refine wl_run orc_ok 1 rfl fr fun a fr => ?_
                        obtain ⟨hc, h⟩ := ifs h
                        obtain ⟨A56, c57, rq55, mq55, cq55⟩ := RR.get (Sat.recAt S 4 rfl).1 hc
                        refine wl_ldc orc_ok (i := (1 : Int)) (v := .slice A56 (List.length (List.getD p40 (Int.toNat (1 : Int)) [])) c57) cq55 (vok_sl mq55) fr rfl rfl rfl rfl rfl rfl rfl rfl rfl rfl rfl rfl rfl rfl rfl hc fun a fr => ?_
                        refine wl_run orc_ok 4 rfl fr fun a fr => ?_
                        refine wl_split 123 fr rfl h (fun fr h => ?_) (fun fr h => ?_)
                        · refine wl_run orc_ok 5 rfl fr fun a fr => ?_
                          refine wl_split 128 fr rfl h (fun fr h => ?_) (fun fr h => ?_)
                          · refine wl_run orc_ok 1 rfl fr fun a fr => ?_
                            obtain ⟨hc, h⟩ := ifs h
                            obtain ⟨A59, c60, rq58, mq58, cq58⟩ := RR.get (Sat.recAt S 1 rfl).1 hc
                            refine wl_ldc orc_ok (i := (2 : Int)) (v := .slice A59 (List.length (List.getD p46 (Int.toNat (2 : Int)) [])) c60) cq58 (vok_sl mq58) fr rfl rfl rfl rfl rfl rfl rfl rfl rfl rfl rfl rfl rfl rfl rfl hc fun a fr => ?_
                            refine wl_val fr rfl rfl rfl (conv_exec fr rfl rfl rfl rq58) rfl fun a fr => ?_
                            refine wl_run orc_ok 3 rfl fr fun a fr => ?_
                            obtain ⟨y61, hx, h⟩ := lt_h h
                            have fr := fr.spell (d := 0) rfl (congrArg Value.bool hx)
                            refine wpList_nil ?_
                            refine then_n ?_
                            refine wp_ret ?_
                            injection h with h
                            subst h
                            refine ret1 fr rfl rfl ?_
                            exact ⟨rfl, fr.vok (d := 0) rfl, S.mask [false, false, false, false, false, false, false, false, false, false, false]⟩
                          · refine wl_run orc_ok 7 rfl fr fun a fr => ?_
                            refine wpList_nil ?_
                            refine then_n ?_
                            refine wp_ret ?_
                            injection h with h
                            subst h
                            refine ret1 fr rfl rfl ?_
                            exact ⟨rfl, fr.vok (d := 0) rfl, S.mask [false, false, false, false, false, false, false, false, false, false, false]⟩
                        · refine wl_run orc_ok 12 rfl fr fun a fr => ?_
                          refine wpList_nil ?_
                          refine then_n ?_
                          refine wp_ret ?_
                          injection h with h
                          subst h
                          refine ret1 fr rfl rfl ?_
                          exact ⟨rfl, fr.vok (d := 0) rfl, S.mask [false, false, false, false, false, false, false, false, false, false, false]⟩
                      · refine wl_run orc_ok 19 rfl fr fun a fr => ?_
                        refine wpList_nil ?_
                        refine then_n ?_
                        refine wp_ret ?_
                        injection h with h
                        subst h
                        refine ret1 fr rfl rfl ?_
                        exact ⟨rfl, fr.vok (d := 0) rfl, S.mask [false, false, false, false, false, false, false, false, false, false, false]⟩
                    · refine wl_run orc_ok 26 rfl fr fun a fr => ?_
                      refine wpList_nil ?_
                      refine then_n ?_
                      refine wp_ret ?_
                      injection h with h
                      subst h
                      refine ret1 fr rfl rfl ?_
                      exact ⟨rfl, fr.vok (d := 0) rfl, S.mask [false, false, false, false, false, false, false, false, false, false, false]⟩
  exact (key w rfl (Sat.start w)).mono fun e w' ⟨h1, h2, h3⟩ => ⟨h1, h2, S.new h3.below⟩
set_option maxRecDepth 100000 in
set_option maxHeartbeats 4000000 in
theorem WallsAll.walk (k : Nat) (A0 : Option Addr) (c0 : Nat) (l0 : List (List Int)) (a1 : Bool) {w0 w : World} {R : List Asn} (rk0 : RR .u8 w A0 l0) (m0 : l0.length ≤ c0 ∧ c0 ≤ maxLen) (z0 : Rdr.smL (Rdr.smL (Rdr.smT (α := Int))) l0) (S : Sat w0 w R) {r : Bool} (h : WallsAll.f k l0 a1 = some r) :
    Calls Try.prog 9 #[(.slice A0 (List.length l0) c0), (.bool a1)] w fun e w' => e = .returned (.bool r) ∧ vok (.bool r) = true ∧ Sat w0 w' R := by
  have key : ∀ w0 : World, w0 = w → Sat w0 w [] → Calls Try.prog 9 #[(.slice A0 (List.length l0) c0), (.bool a1)] w fun e w' => e = .returned (.bool r) ∧ vok (.bool r) = true ∧ Sat w0 w' [] := by
    clear S
    intro w0 hw S
    rw [← hw] at rk0
    clear hw
    unfold WallsAll.f at h
    refine calls_start (N := 125) [(.slice A0 (List.length l0) c0), (.bool a1)] Try.func9 rfl rfl rfl (vok_c (vok_sl m0) (vok_c rfl rfl)) fun a fr => ?_
    refine wp_seq ?_
    refine wp_region_lit ?_
    refine wl_run orc_ok 1 rfl fr fun a fr => ?_
    refine wpList_nil ?_
    refine then_n ?_
    refine wp_seq ?_
    refine wp_seq ?_
    refine wp_region_lit ?_
    obtain ⟨r1, hr, h⟩ := bnd h
    refine wl_call fr rfl rfl rfl rfl en15 (alive.walk  S hr) ?_
    rintro _ w ⟨rfl, hv, S⟩
    refine ⟨_, rfl, hv, fun a fr => ?_⟩
    refine wl_run orc_ok 2 rfl fr fun a fr => ?_
    refine wl_split 19 fr rfl h (fun fr h => ?_) (fun fr h => ?_)
    · refine wl_run orc_ok 9 rfl fr fun a fr => ?_
      refine wpList_nil ?_
      refine then_n ?_
      refine cw_t fr rfl ?_
      refine wp_seq ?_
      refine wp_region_lit ?_
      obtain ⟨r2, hr, h⟩ := bnd h
      refine wl_call fr rfl rfl rfl rfl en15 (alive.walk  S hr) ?_
      rintro _ w ⟨rfl, hv, S⟩
      refine ⟨_, rfl, hv, fun a fr => ?_⟩
      refine wl_run orc_ok 1 rfl fr fun a fr => ?_
      refine wpList_nil ?_
      refine then_n ?_
      refine wp_ret ?_
      refine then_r ?_
      injection h with h
      subst h
      refine ret1 fr rfl rfl ?_
      exact ⟨rfl, fr.vok (d := 4) rfl, S.mask []⟩
    · refine wl_run orc_ok 5 rfl fr fun a fr => ?_
      refine wl_split 24 fr rfl h (fun fr h => ?_) (fun fr h => ?_)
      · refine wl_run orc_ok 4 rfl fr fun a fr => ?_
        refine wpList_nil ?_
        refine then_n ?_
        refine cw_t fr rfl ?_
        refine wp_seq ?_
        refine wp_region_lit ?_
        obtain ⟨r3, hr, h⟩ := bnd h
        refine wl_call fr rfl rfl rfl rfl en15 (alive.walk  S hr) ?_
        rintro _ w ⟨rfl, hv, S⟩
        refine ⟨_, rfl, hv, fun a fr => ?_⟩
        refine wl_run orc_ok 1 rfl fr fun a fr => ?_
        refine wpList_nil ?_
        refine then_n ?_
        refine wp_ret ?_
        refine then_r ?_
        injection h with h
        subst h
        refine ret1 fr rfl rfl ?_
        exact ⟨rfl, fr.vok (d := 4) rfl, S.mask []⟩
      · refine wl_run orc_ok 1 rfl fr fun a fr => ?_
        obtain ⟨y4, hn0, h⟩ := lt_h h
        have H := recsize_call (A := A0) (c := c0) (ls := l0) (Rdr.Row.keep rk0 S.below) (fr.slice (d := 25) rfl) z0
        rw [hn0] at H
        refine wl_call fr rfl rfl rfl rfl en16 H ?_
        clear H
        rintro _ w ⟨rfl, hv, hw⟩
        subst hw
        refine ⟨_, rfl, hv, fun a fr => ?_⟩
        refine wl_run orc_ok 2 rfl fr fun a fr => ?_
        refine wpList_nil ?_
        refine then_n ?_
        refine cw_if fr rfl h (fun h => ?_) (fun h => ?_)
        · refine wp_seq ?_
          refine wp_region_lit ?_
          obtain ⟨r5, hr, h⟩ := bnd h
          refine wl_call fr rfl rfl rfl rfl en15 (alive.walk  S hr) ?_
          rintro _ w ⟨rfl, hv, S⟩
          refine ⟨_, rfl, hv, fun a fr => ?_⟩
          refine wl_run orc_ok 1 rfl fr fun a fr => ?_
          refine wpList_nil ?_
          refine then_n ?_
          refine wp_ret ?_
          refine then_r ?_
          injection h with h
          subst h
          refine ret1 fr rfl rfl ?_
          exact ⟨rfl, fr.vok (d := 4) rfl, S.mask []⟩
        · refine wp_skip ?_
          refine then_n ?_
          refine wp_seq ?_
          refine wp_region_lit ?_
          have hc : (1 ≤ (1200 : Int) ∧ (1200 : Int) ≤ (4096 : Int)) := by decide
          refine wl_call fr rfl rfl rfl rfl en17 (disk_new S hc) ?_
          rintro _ w ⟨g6, rfl, S⟩
          refine ⟨_, rfl, rfl, fun a fr => ?_⟩
          refine wl_run orc_ok 5 rfl fr fun a fr => ?_
          refine wpList_nil ?_
          refine then_n ?_
          refine wp_seq ?_
          refine wp_region_lit ?_
          refine wl_run orc_ok 1 rfl fr fun a fr => ?_
          obtain ⟨hc, h⟩ := ifs h
          obtain ⟨p7, hn0, h⟩ := lt_h h
          obtain ⟨x8, hn1, h⟩ := lt_h h
          obtain ⟨D9, hn2, h⟩ := lt_h h
          have H := open_call S hc
          rw [hn0, hn1, hn2] at H
          refine wl_call fr rfl rfl rfl rfl en14 H ?_
          clear H
          rintro _ w ⟨g12, A10, c11, rfl, hv, S⟩
          refine ⟨_, rfl, hv, fun a fr => ?_⟩
          refine wl_run orc_ok 7 rfl fr fun a fr => ?_
          refine wpList_nil ?_
          refine then_n ?_
          refine wp_seq ?_
          refine wp_seq ?_
          refine wp_region_lit ?_
          refine wl_run orc_ok 6 rfl fr fun a fr => ?_
          refine wpList_nil ?_
          refine then_n ?_
          refine cw_f fr rfl ?_
          refine wp_skip ?_
          refine then_n ?_
          refine wp_seq ?_
          refine wp_seq ?_
          refine wp_region_lit ?_
          refine wl_run orc_ok 1 rfl fr fun a fr => ?_
          refine wpList_nil ?_
          refine then_n ?_
          refine wp_block ?_
          have S : Sat w0 _ [logA g12 g6 x8, diskA g6 D9] := S.mask [true, false, true]
          have S : Sat w0 _ [diskA g6 D9, logA g12 g6 x8] := S.frontAt 1 rfl
          have S : Sat w0 _ [logA g12 g6 x8, diskA g6 D9] := S.frontAt 1 rfl
          refine cw_loop (fun k1 a w => ∃ x13 : Int, ∃ D14 : Dk, ∃ x15 : Int, Fr 125 a [(0, (.slice A0 (List.length l0) c0)), (1, (.bool a1)), (5, (.pointer (some ⟨g6, 0, none⟩))), (7, (.pointer (some ⟨g12, 0, none⟩))), (10, (.int .i64 x15))] ∧ Sat w0 w [logA g12 g6 x13, diskA g6 D14] ∧ (WallsAll.l1 k1 l0 a1 x13 D14 x15) = some r) k ⟨x8, D9, (0 : Int), fr.sub ⟨rfl, rfl, rfl, rfl, rfl, trivial⟩, S, h⟩ ?_ ?_
          · rintro a w ⟨x13, D14, x15, -, -, h⟩
            simp only [WallsAll.l1] at h
            cases h
          · rintro k1 a w ⟨x13, D14, x15, fr, S, h⟩
            rw [WallsAll.l1] at h
            refine wp_seq ?_
            refine wp_seq ?_
            refine wp_region_lit ?_
            refine wl_run orc_ok 4 rfl fr fun a fr => ?_
            refine wpList_nil ?_
            refine then_n ?_
            refine cw_if fr rfl h (fun h => ?_) (fun h => ?_)
            · refine wp_skip ?_
              refine then_n ?_
              refine cw_cut (fun a w => ∃ x19 : Int, ∃ D20 : Dk, Fr 125 a [(0, (.slice A0 (List.length l0) c0)), (1, (.bool a1)), (5, (.pointer (some ⟨g6, 0, none⟩))), (7, (.pointer (some ⟨g12, 0, none⟩))), (10, (.int .i64 x15))] ∧ Sat w0 w [logA g12 g6 x19, diskA g6 D20] ∧ (WallsAll.j1 (WallsAll.l1 k1 l0 a1) x15 x19 D20) = some r) ?_ ?_
              · refine wp_block ?_
                refine wp_seq ?_
                refine wp_seq ?_
                refine wp_region_lit ?_
                refine wl_run orc_ok 3 rfl fr fun a fr => ?_
                obtain ⟨hc, h⟩ := ifs h
                obtain ⟨A22, c23, rq21, mq21, cq21⟩ := RR.get rk0 hc
                refine wl_ldc orc_ok (i := x15) (v := .slice A22 (List.length (List.getD l0 (Int.toNat x15) [])) c23) (cq21.imp fun _ h => ⟨h.1, RR.cellAt S.below h.2⟩) (vok_sl mq21) fr rfl rfl rfl rfl rfl rfl rfl rfl rfl rfl rfl rfl rfl rfl rfl hc fun a fr => ?_
                have S : Sat w0 _ [diskA g6 D14, logA g12 g6 x13] := S.frontAt 1 rfl
                have S : Sat w0 _ [logA g12 g6 x13, diskA g6 D14] := S.frontAt 1 rfl
                obtain ⟨hc, h⟩ := ifs h
                obtain ⟨y24, hn0, h⟩ := lt_h h
                obtain ⟨x25, hn1, h⟩ := lt_h h
                obtain ⟨D26, hn2, h⟩ := lt_h h
                have H := add_callI (A := A22) (c := c23) (l := (List.getD l0 (Int.toNat x15) [])) S (Rk.at rq21 S) (fr.slice (d := 56) rfl) hc
                rw [hn0, hn1, hn2] at H
                refine wl_call fr rfl rfl rfl rfl en11 H ?_
                clear H
                rintro _ w ⟨rfl, hv, S⟩
                refine ⟨_, rfl, hv, fun a fr => ?_⟩
                refine wl_run orc_ok 1 rfl fr fun a fr => ?_
                refine wpList_nil ?_
                refine then_n ?_
                refine cw_if fr rfl h (fun h => ?_) (fun h => ?_)
                · refine wp_seq ?_
                  refine wp_region_lit ?_
                  refine wl_run orc_ok 2 rfl fr fun a fr => ?_
                  obtain ⟨hc, h⟩ := ifs h
                  obtain ⟨A28, c29, rq27, mq27, cq27⟩ := RR.get rk0 hc
                  refine wl_ldc orc_ok (i := x15) (v := .slice A28 (List.length (List.getD l0 (Int.toNat x15) [])) c29) (cq27.imp fun _ h => ⟨h.1, RR.cellAt S.below h.2⟩) (vok_sl mq27) fr rfl rfl rfl rfl rfl rfl rfl rfl rfl rfl rfl rfl rfl rfl rfl hc fun a fr => ?_
                  refine wl_run orc_ok 3 rfl fr fun a fr => ?_
                  obtain ⟨y30, hx, h⟩ := lt_h h
                  have fr := fr.spell (d := 4) rfl (congrArg Value.bool hx)
                  refine wpList_nil ?_
                  refine then_n ?_
                  refine wp_ret ?_
                  refine then_r ?_
                  refine blk_r ?_
                  refine then_r ?_
                  refine then_r ?_
                  refine blk_r ?_
                  refine then_r ?_
                  injection h with h
                  subst h
                  refine ret1 fr rfl rfl ?_
                  exact ⟨rfl, fr.vok (d := 4) rfl, S.mask [false, false]⟩
                · refine wp_skip ?_
                  refine then_n ?_
                  refine wp_seq ?_
                  refine wp_region_lit ?_
                  refine wl_run orc_ok 2 rfl fr fun a fr => ?_
                  refine wl_split 66 fr rfl h (fun fr h => ?_) (fun fr h => ?_)
                  · refine wl_run orc_ok 1 rfl fr fun a fr => ?_
                    have S : Sat w0 _ [diskA g6 D26, logA g12 g6 x25] := S.frontAt 1 rfl
                    have S : Sat w0 _ [logA g12 g6 x25, diskA g6 D26] := S.frontAt 1 rfl
                    obtain ⟨D31, hn0, h⟩ := lt_h h
                    have H := force_call S
                    rw [hn0] at H
                    refine wl_call fr rfl rfl rfl rfl en12 H ?_
                    clear H
                    rintro _ w ⟨rfl, S⟩
                    refine ⟨_, rfl, rfl, fun a fr => ?_⟩
                    refine wl_run orc_ok 2 rfl fr fun a fr => ?_
                    refine wpList_nil ?_
                    refine then_n ?_
                    refine cw_f fr rfl ?_
                    refine wp_skip ?_
                    refine blk_n ?_
                    exact ⟨x25, D31, fr.sub ⟨rfl, rfl, rfl, rfl, rfl, trivial⟩, S, h⟩
                  · refine wl_run orc_ok 4 rfl fr fun a fr => ?_
                    refine wpList_nil ?_
                    refine then_n ?_
                    refine cw_f fr rfl ?_
                    refine wp_skip ?_
                    refine blk_n ?_
                    exact ⟨x25, D26, fr.sub ⟨rfl, rfl, rfl, rfl, rfl, trivial⟩, S, h⟩
              · rintro a w ⟨x19, D20, fr, S, h⟩
                rw [WallsAll.j1] at h
                refine wp_region_lit ?_
                refine wl_run orc_ok 3 rfl fr fun a fr => ?_
                refine wpList_nil ?_
                exact ⟨x19, D20, (IntKind.wrap .i64 (x15 + (1 : Int))), fr.sub ⟨rfl, rfl, rfl, rfl, rfl, trivial⟩, S, h⟩
            · refine wp_exit ?_
              refine then_e ?_
              refine then_e ?_
              refine blk_y ?_
              refine then_n ?_
              refine wp_seq ?_
              refine wp_region_lit ?_
              refine wl_run orc_ok 1 rfl fr fun a fr => ?_
              have S : Sat w0 _ [diskA g6 D14, logA g12 g6 x13] := S.frontAt 1 rfl
              refine wl_call fr rfl rfl rfl rfl en21 (disk_waits S) ?_
              rintro _ w ⟨rfl, hv, hw⟩
              subst hw
              refine ⟨_, rfl, hv, fun a fr => ?_⟩
              refine wl_run orc_ok 1 rfl fr fun a fr => ?_
              refine wpList_nil ?_
              refine then_n ?_
              refine wp_seq ?_
              refine wp_region_lit ?_
              refine wl_run orc_ok 1 rfl fr fun a fr => ?_
              obtain ⟨hc, h⟩ := ifs h
              refine wl_call fr rfl rfl rfl rfl en18 (disk_fail S rfl rfl hc) ?_
              rintro _ w ⟨g32, rfl, S⟩
              refine ⟨_, rfl, rfl, fun a fr => ?_⟩
              obtain ⟨D33, hx, h⟩ := lt_h h
              rw [hx] at S
              refine wl_run orc_ok 5 rfl fr fun a fr => ?_
              refine wpList_nil ?_
              refine then_n ?_
              refine wp_seq ?_
              refine wp_region_lit ?_
              refine wl_run orc_ok 1 rfl fr fun a fr => ?_
              have S : Sat w0 _ [diskA g6 D14, diskA g32 D33, logA g12 g6 x13] := S.frontAt 1 rfl
              obtain ⟨hc, h⟩ := ifs h
              obtain ⟨p34, hn0, h⟩ := lt_h h
              obtain ⟨x35, hn1, h⟩ := lt_h h
              obtain ⟨D36, hn2, h⟩ := lt_h h
              have H := open_call S hc
              rw [hn0, hn1, hn2] at H
              refine wl_call fr rfl rfl rfl rfl en14 H ?_
              clear H
              rintro _ w ⟨g39, A37, c38, rfl, hv, S⟩
              refine ⟨_, rfl, hv, fun a fr => ?_⟩
              refine wl_run orc_ok 7 rfl fr fun a fr => ?_
              refine wpList_nil ?_
              refine then_n ?_
              refine cw_cut (fun a w => Fr 125 a [(0, (.slice A0 (List.length l0) c0)), (11, (.int .i64 (List.length D14.waits : Int))), (12, (.pointer (some ⟨g32, 0, none⟩)))] ∧ Sat w0 w [diskA g32 D33] ∧ (WallsAll.j2 D33 D14 l0) = some r) ?_ ?_
              · refine wp_seq ?_
                refine wp_region_lit ?_
                refine wl_run orc_ok 9 rfl fr fun a fr => ?_
                obtain ⟨hc, h⟩ := ifs h
                obtain ⟨y47, hn0, h⟩ := lt_h h
                have H := samerecs_call (A := A37) (ca := c38) (a := p34) (B := A0) (cb := c0) (b := l0) (Sat.recAt S 1 rfl).1 (Rdr.Row.keep rk0 S.below) (fr.slice (d := 91) rfl) (fr.slice (d := 92) rfl) hc S
                rw [hn0] at H
                refine wl_call fr rfl rfl rfl rfl en19 H ?_
                clear H
                rintro _ w ⟨rfl, S⟩
                refine ⟨_, rfl, rfl, fun a fr => ?_⟩
                refine wl_run orc_ok 3 rfl fr fun a fr => ?_
                refine wl_split 96 fr rfl h (fun fr h => ?_) (fun fr h => ?_)
                · cases h
                · refine wl_run orc_ok 2 rfl fr fun a fr => ?_
                  refine wl_split 98 fr rfl h (fun fr h => ?_) (fun fr h => ?_)
                  · refine wl_run orc_ok 5 rfl fr fun a fr => ?_
                    refine wl_split 103 fr rfl h (fun fr h => ?_) (fun fr h => ?_)
                    · cases h
                    · refine wl_run orc_ok 1 rfl fr fun a fr => ?_
                      have S : Sat w0 _ [diskA g6 D36, logA g39 g6 x35, recsA .u8 22 5 A37 c38 p34, diskA g32 D33, logA g12 g6 x13] := S.frontAt 2 rfl
                      refine wl_call fr rfl rfl rfl rfl en21 (disk_waits S) ?_
                      rintro _ w ⟨rfl, hv, hw⟩
                      subst hw
                      refine ⟨_, rfl, hv, fun a fr => ?_⟩
                      refine wl_run orc_ok 2 rfl fr fun a fr => ?_
                      refine wpList_nil ?_
                      refine then_n ?_
                      refine cw_if fr rfl h (fun h => ?_) (fun h => ?_)
                      · cases h
                      · refine wp_skip ?_
                        have S : Sat w0 _ [diskA g32 D33] := S.mask [false, false, false, true, false]
                        exact ⟨fr.sub ⟨rfl, rfl, rfl, trivial⟩, S, h⟩
                  · refine wl_run orc_ok 6 rfl fr fun a fr => ?_
                    have S : Sat w0 _ [diskA g6 D36, logA g39 g6 x35, recsA .u8 22 5 A37 c38 p34, diskA g32 D33, logA g12 g6 x13] := S.frontAt 2 rfl
                    refine wl_call fr rfl rfl rfl rfl en21 (disk_waits S) ?_
                    rintro _ w ⟨rfl, hv, hw⟩
                    subst hw
                    refine ⟨_, rfl, hv, fun a fr => ?_⟩
                    refine wl_run orc_ok 2 rfl fr fun a fr => ?_
                    refine wpList_nil ?_
                    refine then_n ?_
                    refine cw_if fr rfl h (fun h => ?_) (fun h => ?_)
                    · cases h
                    · refine wp_skip ?_
                      have S : Sat w0 _ [diskA g32 D33] := S.mask [false, false, false, true, false]
                      exact ⟨fr.sub ⟨rfl, rfl, rfl, trivial⟩, S, h⟩
              · rintro a w ⟨fr, S, h⟩
                rw [WallsAll.j2] at h
                refine wp_seq ?_
                refine wp_region_lit ?_
                refine wl_run orc_ok 1 rfl fr fun a fr => ?_
                obtain ⟨hc, h⟩ := ifs h
                obtain ⟨p40, hn0, h⟩ := lt_h h
                obtain ⟨x41, hn1, h⟩ := lt_h h
                obtain ⟨D42, hn2, h⟩ := lt_h h
                have H := open_call S hc
                rw [hn0, hn1, hn2] at H
                refine wl_call fr rfl rfl rfl rfl en14 H ?_
                clear H
                rintro _ w ⟨g45, A43, c44, rfl, hv, S⟩
                refine ⟨_, rfl, hv, fun a fr => ?_⟩
                refine wl_run orc_ok 7 rfl fr fun a fr => ?_
                refine wpList_nil ?_
                refine then_n ?_
                refine wp_seq ?_
                refine wp_region_lit ?_
                refine wl_run orc_ok 6 rfl fr fun a fr => ?_
                refine wl_split 119 fr rfl h (fun fr h => ?_) (fun fr h => ?_)
                · refine wl_run orc_ok 6 rfl fr fun a fr => ?_
                  refine wpList_nil ?_
                  refine then_n ?_
                  refine wp_ret ?_
                  injection h with h
                  subst h
                  refine ret1 fr rfl rfl ?_
                  exact ⟨rfl, fr.vok (d := 4) rfl, S.mask [false, false, false]⟩
                · refine wl_run orc_ok 2 rfl fr fun a fr => ?_
                  obtain ⟨hc, h⟩ := ifs h
                  obtain ⟨y46, hn0, h⟩ := lt_h h
                  have H := samerecs_call (A := A43) (ca := c44) (a := p40) (B := A0) (cb := c0) (b := l0) (Sat.recAt S 1 rfl).1 (Rdr.Row.keep rk0 S.below) (fr.slice (d := 120) rfl) (fr.slice (d := 121) rfl) hc S
                  rw [hn0] at H
                  refine wl_call fr rfl rfl rfl rfl en19 H ?_
                  clear H
                  rintro _ w ⟨rfl, S⟩
                  refine ⟨_, rfl, rfl, fun a fr => ?_⟩
                  refine wl_run orc_ok 3 rfl fr fun a fr => ?_
                  refine wpList_nil ?_
                  refine then_n ?_
                  refine wp_ret ?_
                  injection h with h
                  subst h
                  refine ret1 fr rfl rfl ?_
                  exact ⟨rfl, fr.vok (d := 4) rfl, S.mask [false, false, false]⟩
  exact (key w rfl (Sat.start w)).mono fun e w' ⟨h1, h2, h3⟩ => ⟨h1, h2, S.new h3.below⟩
end Go.Proofs.Ytmpkoacpakepfaa.Pl
