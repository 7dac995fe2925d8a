/- Texts of this work, one behind the other. -/
import Derived.Test.YticnjkdaccacaaaGreatDoorVWallsPlay8
import Derived.Test.YticnjkdaccacaaaGreatDoorProg
import Derived.IntWalk
import Derived.ProofKit
import Derived.OpenShut
import Derived.KernelRfl
import Derived.Lib.Hide
import Derived.Deep.LoopGhost
import Derived.Lib.SliceRun
import Derived.Laws.BytesArg
section
namespace Go.Proofs.YticnjkdaccacaaaGreatDoor.QGet
open Go Go.RowKit Sx Base _root_.Go.Proofs.YticnjkdaccacaaaGreatDoor.Own
def Sectors.f (a0 : Int) : Option (Int) :=
  (lt (IntKind.wrap .i64 (Int.tdiv (IntKind.wrap .i64 ((IntKind.wrap .i64 ((IntKind.wrap .i64 ((8 : Int) + a0)) + (64 : Int))) - (1 : Int))) (64 : Int))) fun y1 => (some (y1)))
def number.f (a0 : Int) : Option (List Int) :=
  (some ([(IntKind.wrap .u8 (IntKind.wrap .u32 (Int.tdiv a0 (16777216 : Int)))), (IntKind.wrap .u8 (IntKind.wrap .u32 (Int.tdiv a0 (65536 : Int)))), (IntKind.wrap .u8 (IntKind.wrap .u32 (Int.tdiv a0 (256 : Int)))), (IntKind.wrap .u8 a0)]))
def Put.l1 : Nat → List Int → Option (List Int × Int)
  | 0, _ => none
  | k1 + 1, l20 =>
    (if ((Int.tmod (List.length l20 : Int) (64 : Int)) != (0 : Int)) = true then (if (List.length l20 : Int) + (List.length [(0 : Int)] : Int) ≤ 17592186044416 then ((Put.l1 k1) (l20 ++ [(0 : Int)])) else none) else (some (l20, (0 : Int))))
def Put.f (k : Nat) (l0 : List Int) : Option (List Int × Int) :=
  (if (decide ((List.length l0 : Int) > (16384 : Int))) = true then (some (([] : List Int), (3 : Int))) else (Option.bind (number.f (IntKind.wrap .u32 (List.length l0 : Int))) fun r1 => (if (List.length ([] : List Int) : Int) + (List.length r1 : Int) ≤ 17592186044416 then (if (List.length (([] : List Int) ++ r1) : Int) + (List.length l0 : Int) ≤ 17592186044416 then (if (List.length ([] : List Int) : Int) + (List.length r1 : Int) ≤ 17592186044416 then (if List.length ((([] : List Int) ++ r1) ++ l0) ≤ 1000000000 then (lt (Crc.num (Crc.on 0#32 ((([] : List Int) ++ r1) ++ l0))) fun y10 => (Option.bind (number.f y10) fun r11 => (if (List.length (([] : List Int) ++ r1) : Int) + (List.length r11 : Int) ≤ 17592186044416 then (if (List.length ((([] : List Int) ++ r1) ++ r11) : Int) + (List.length l0 : Int) ≤ 17592186044416 then (Put.l1 k (((([] : List Int) ++ r1) ++ r11) ++ l0)) else none) else none))) else none) else none) else none) else none)))
def Get.f (k : Nat) (l0 : List Int) : Option (List Int × Int × Int) :=
  (if (decide ((List.length l0 : Int) < (8 : Int))) = true then (some (([] : List Int), (0 : Int), (4 : Int))) else (if 0 ≤ (0 : Int) ∧ (0 : Int) < (List.length l0 : Int) then (if 0 ≤ (1 : Int) ∧ (1 : Int) < (List.length l0 : Int) then (if 0 ≤ (2 : Int) ∧ (2 : Int) < (List.length l0 : Int) then (if 0 ≤ (3 : Int) ∧ (3 : Int) < (List.length l0 : Int) then (if (decide ((IntKind.wrap .i64 ((IntKind.wrap .i64 ((IntKind.wrap .i64 ((IntKind.wrap .i64 ((16777216 : Int) * (IntKind.wrap .i64 (List.getD l0 (Int.toNat (0 : Int)) 0)))) + (IntKind.wrap .i64 ((65536 : Int) * (IntKind.wrap .i64 (List.getD l0 (Int.toNat (1 : Int)) 0)))))) + (IntKind.wrap .i64 ((256 : Int) * (IntKind.wrap .i64 (List.getD l0 (Int.toNat (2 : Int)) 0)))))) + (IntKind.wrap .i64 (List.getD l0 (Int.toNat (3 : Int)) 0)))) > (16384 : Int))) = true then (some (([] : List Int), (0 : Int), (4 : Int))) else (Option.bind (Sectors.f (IntKind.wrap .i64 ((IntKind.wrap .i64 ((IntKind.wrap .i64 ((IntKind.wrap .i64 ((16777216 : Int) * (IntKind.wrap .i64 (List.getD l0 (Int.toNat (0 : Int)) 0)))) + (IntKind.wrap .i64 ((65536 : Int) * (IntKind.wrap .i64 (List.getD l0 (Int.toNat (1 : Int)) 0)))))) + (IntKind.wrap .i64 ((256 : Int) * (IntKind.wrap .i64 (List.getD l0 (Int.toNat (2 : Int)) 0)))))) + (IntKind.wrap .i64 (List.getD l0 (Int.toNat (3 : Int)) 0))))) fun r1 => (if (decide ((List.length l0 : Int) < (IntKind.wrap .i64 (r1 * (64 : Int))))) = true then (some (([] : List Int), (0 : Int), (4 : Int))) else (if ((0 : Int) ≤ (8 : Int) ∧ (8 : Int) ≤ (IntKind.wrap .i64 ((8 : Int) + (IntKind.wrap .i64 ((IntKind.wrap .i64 ((IntKind.wrap .i64 ((IntKind.wrap .i64 ((16777216 : Int) * (IntKind.wrap .i64 (List.getD l0 (Int.toNat (0 : Int)) 0)))) + (IntKind.wrap .i64 ((65536 : Int) * (IntKind.wrap .i64 (List.getD l0 (Int.toNat (1 : Int)) 0)))))) + (IntKind.wrap .i64 ((256 : Int) * (IntKind.wrap .i64 (List.getD l0 (Int.toNat (2 : Int)) 0)))))) + (IntKind.wrap .i64 (List.getD l0 (Int.toNat (3 : Int)) 0))))))) ∧ (IntKind.wrap .i64 ((8 : Int) + (IntKind.wrap .i64 ((IntKind.wrap .i64 ((IntKind.wrap .i64 ((IntKind.wrap .i64 ((16777216 : Int) * (IntKind.wrap .i64 (List.getD l0 (Int.toNat (0 : Int)) 0)))) + (IntKind.wrap .i64 ((65536 : Int) * (IntKind.wrap .i64 (List.getD l0 (Int.toNat (1 : Int)) 0)))))) + (IntKind.wrap .i64 ((256 : Int) * (IntKind.wrap .i64 (List.getD l0 (Int.toNat (2 : Int)) 0)))))) + (IntKind.wrap .i64 (List.getD l0 (Int.toNat (3 : Int)) 0)))))) ≤ (List.length l0 : Int) then (if (List.length ([] : List Int) : Int) + (List.length (List.drop (Int.toNat (8 : Int)) (List.take (Int.toNat (IntKind.wrap .i64 ((8 : Int) + (IntKind.wrap .i64 ((IntKind.wrap .i64 ((IntKind.wrap .i64 ((IntKind.wrap .i64 ((16777216 : Int) * (IntKind.wrap .i64 (List.getD l0 (Int.toNat (0 : Int)) 0)))) + (IntKind.wrap .i64 ((65536 : Int) * (IntKind.wrap .i64 (List.getD l0 (Int.toNat (1 : Int)) 0)))))) + (IntKind.wrap .i64 ((256 : Int) * (IntKind.wrap .i64 (List.getD l0 (Int.toNat (2 : Int)) 0)))))) + (IntKind.wrap .i64 (List.getD l0 (Int.toNat (3 : Int)) 0))))))) l0)) : Int) ≤ 17592186044416 then (Option.bind (Put.f k (([] : List Int) ++ (List.drop (Int.toNat (8 : Int)) (List.take (Int.toNat (IntKind.wrap .i64 ((8 : Int) + (IntKind.wrap .i64 ((IntKind.wrap .i64 ((IntKind.wrap .i64 ((IntKind.wrap .i64 ((16777216 : Int) * (IntKind.wrap .i64 (List.getD l0 (Int.toNat (0 : Int)) 0)))) + (IntKind.wrap .i64 ((65536 : Int) * (IntKind.wrap .i64 (List.getD l0 (Int.toNat (1 : Int)) 0)))))) + (IntKind.wrap .i64 ((256 : Int) * (IntKind.wrap .i64 (List.getD l0 (Int.toNat (2 : Int)) 0)))))) + (IntKind.wrap .i64 (List.getD l0 (Int.toNat (3 : Int)) 0))))))) l0)))) fun r5 => (if 0 ≤ (IntKind.wrap .i64 (r1 * (64 : Int))) ∧ (IntKind.wrap .i64 (r1 * (64 : Int))) ≤ (List.length l0 : Int) then (if (!(ByteArray.toList (strOfNums r5.1) == ByteArray.toList (strOfNums (List.take (Int.toNat (IntKind.wrap .i64 (r1 * (64 : Int)))) l0)))) = true then (some (([] : List Int), (0 : Int), (4 : Int))) else (some ((([] : List Int) ++ (List.drop (Int.toNat (8 : Int)) (List.take (Int.toNat (IntKind.wrap .i64 ((8 : Int) + (IntKind.wrap .i64 ((IntKind.wrap .i64 ((IntKind.wrap .i64 ((IntKind.wrap .i64 ((16777216 : Int) * (IntKind.wrap .i64 (List.getD l0 (Int.toNat (0 : Int)) 0)))) + (IntKind.wrap .i64 ((65536 : Int) * (IntKind.wrap .i64 (List.getD l0 (Int.toNat (1 : Int)) 0)))))) + (IntKind.wrap .i64 ((256 : Int) * (IntKind.wrap .i64 (List.getD l0 (Int.toNat (2 : Int)) 0)))))) + (IntKind.wrap .i64 (List.getD l0 (Int.toNat (3 : Int)) 0))))))) l0))), r1, (0 : Int)))) else none)) else none) else none)))) else none) else none) else none) else none))
end Go.Proofs.YticnjkdaccacaaaGreatDoor.QGet
end
section
namespace Go.Proofs.YticnjkdaccacaaaGreatDoor.QGet
open Go Go.RowKit Sx Base _root_.Go.Proofs.YticnjkdaccacaaaGreatDoor.Own
def orc : Orc := ⟨[(2, .int .i64), (3, .int .i64), (5, .int .u8), (9, .string), (45, .slice 5), (86, .int .u32)],
  [(5, 1)]⟩
theorem orc_ok : orc.Ok Tryz.prog := ⟨⟨Tryz.underlying2, Tryz.underlying3, Tryz.underlying5, Tryz.underlying9, Tryz.underlying45, Tryz.underlying86, trivial⟩, ⟨by kernel_rfl, trivial⟩⟩
theorem en126 : Enters Tryz.prog 126 := fun _ _ => by kernel_rfl
theorem en127 : Enters Tryz.prog 127 := fun _ _ => by kernel_rfl
theorem en215 : Enters Tryz.prog 215 := fun _ _ => by kernel_rfl
theorem en216 : Enters Tryz.prog 216 := fun _ _ => by kernel_rfl
theorem info5 : (Tryz.prog.info? 5).map (·.size) = some 1 := by kernel_rfl
theorem lit45 : RowTy Tryz.prog 45 5 .u8 := ⟨Tryz.underlying45, 1, by decide, by kernel_rfl⟩
set_option maxRecDepth 100000 in
set_option maxHeartbeats 4000000 in
theorem Sectors.walk (a0 : Int) {w0 w : World} {R : List Asn} (v0 : (Lit.int .i64 a0).wf = true) (S : Sat w0 w R) {r : Int} (h : Sectors.f a0 = some r) :
    Calls Tryz.prog 127 #[(.int .i64 a0)] w fun e w' => e = .returned (.int .i64 r) ∧ vok (.int .i64 r) = true ∧ Sat w0 w' R := by
  have key : ∀ w0 : World, w0 = w → Sat w0 w [] → Calls Tryz.prog 127 #[(.int .i64 a0)] w fun e w' => e = .returned (.int .i64 r) ∧ vok (.int .i64 r) = true ∧ Sat w0 w' [] := by
    clear S
    intro w0 hw S
    clear hw
    unfold Sectors.f at h
    refine calls_start (N := 8) [(.int .i64 a0)] Tryz.func127 rfl rfl rfl (vok_c v0 rfl) fun a fr => ?_
    refine wp_seq ?_
    refine wp_region_lit ?_
    refine wl_run orc_ok 1 rfl fr fun a fr => ?_
    refine wpList_nil ?_
    refine then_n ?_
    refine wp_seq ?_
    refine wp_region_lit ?_
    refine wl_run orc_ok 6 rfl fr fun a fr => ?_
    obtain ⟨y1, hx, h⟩ := lt_h h
    have fr := fr.spell (d := 2) rfl (congrArg (Value.int .i64) hx)
    refine wpList_nil ?_
    refine then_n ?_
    refine wp_ret ?_
    injection h with h
    subst h
    refine ret1 fr rfl rfl ?_
    exact ⟨rfl, fr.vok (d := 2) rfl, S.mask []⟩
  exact (key w rfl (Sat.start w)).mono fun e w' ⟨h1, h2, h3⟩ => ⟨h1, h2, S.new h3.below⟩
set_option maxRecDepth 100000 in
set_option maxHeartbeats 4000000 in
theorem number.walk (a0 : Int) {w0 w : World} {R : List Asn} (v0 : (Lit.int .u32 a0).wf = true) (S : Sat w0 w R) {r : List Int} (h : number.f a0 = some r) :
    Calls Tryz.prog 215 #[(.int .u32 a0)] w fun e w' => ∃ A800 : Option Addr, ∃ c800 : Nat, e = .returned (.slice A800 (List.length r) c800) ∧ vok (.slice A800 (List.length r) c800) = true ∧ Sat w0 w' (ownA .u8 5 A800 c800 r :: R) := by
  have key : ∀ w0 : World, w0 = w → Sat w0 w [] → Calls Tryz.prog 215 #[(.int .u32 a0)] w fun e w' => ∃ A800 : Option Addr, ∃ c800 : Nat, e = .returned (.slice A800 (List.length r) c800) ∧ vok (.slice A800 (List.length r) c800) = true ∧ Sat w0 w' [ownA .u8 5 A800 c800 r] := by
    clear S
    intro w0 hw S
    clear hw
    unfold number.f at h
    refine calls_start (N := 15) [(.int .u32 a0)] Tryz.func215 rfl rfl rfl (vok_c v0 rfl) fun a fr => ?_
    refine wp_seq ?_
    refine wp_region_lit ?_
    refine wl_run orc_ok 1 rfl fr fun a fr => ?_
    refine wpList_nil ?_
    refine then_n ?_
    refine wp_seq ?_
    refine wp_region_lit ?_
    refine wl_run orc_ok 11 rfl fr fun a fr => ?_
    refine wl_lit (xs := [(IntKind.wrap .u8 (IntKind.wrap .u32 (Int.tdiv a0 (16777216 : Int)))), (IntKind.wrap .u8 (IntKind.wrap .u32 (Int.tdiv a0 (65536 : Int)))), (IntKind.wrap .u8 (IntKind.wrap .u32 (Int.tdiv a0 (256 : Int)))), (IntKind.wrap .u8 a0)]) orc_ok lit45 fr rfl rfl rfl rfl ⟨rfl, rfl, rfl, rfl, rfl, rfl, rfl, rfl, trivial⟩ rfl rfl S ?_
    intro w A1 c2 S
    intro a fr
    refine wl_run orc_ok 1 rfl fr fun a fr => ?_
    refine wpList_nil ?_
    refine then_n ?_
    refine wp_ret ?_
    injection h with h
    subst h
    refine ret1 fr rfl rfl ?_
    exact ⟨A1, c2, rfl, fr.vok (d := 2) rfl, S.mask [true]⟩
  exact (key w rfl (Sat.start w)).mono fun e w' ⟨A800, c800, h1, h2, h3⟩ => ⟨A800, c800, h1, h2, S.join h3 (fun A hA F => by simp only [List.mem_cons, List.not_mem_nil, or_false] at hA; subst hA; exact own_lower S.below.size F)⟩
set_option maxRecDepth 100000 in
set_option maxHeartbeats 4000000 in
theorem Put.walk (k : Nat) (A0 : Option Addr) (c0 : Nat) (l0 : List Int) {w0 w : World} {R : List Asn} (rk0 : Rk .u8 w A0 l0) (m0 : l0.length ≤ c0 ∧ c0 ≤ maxLen) (S : Sat w0 w R) {r : List Int × Int} (h : Put.f k l0 = some r) :
    Calls Tryz.prog 126 #[(.slice A0 (List.length l0) c0)] w fun e w' => ∃ A800 : Option Addr, ∃ c800 : Nat, e = .returned (.tuple #[(.slice A800 (List.length r.1) c800), (.int .i64 r.2)]) ∧ vok (.tuple #[(.slice A800 (List.length r.1) c800), (.int .i64 r.2)]) = true ∧ Sat w0 w' (ownA .u8 5 A800 c800 r.1 :: R) := by
  have key : ∀ w0 : World, w0 = w → Sat w0 w [] → Calls Tryz.prog 126 #[(.slice A0 (List.length l0) c0)] w fun e w' => ∃ A800 : Option Addr, ∃ c800 : Nat, e = .returned (.tuple #[(.slice A800 (List.length r.1) c800), (.int .i64 r.2)]) ∧ vok (.tuple #[(.slice A800 (List.length r.1) c800), (.int .i64 r.2)]) = true ∧ Sat w0 w' [ownA .u8 5 A800 c800 r.1] := by
    clear S
    intro w0 hw S
    rw [← hw] at rk0
    clear hw
    unfold Put.f at h
    refine calls_start (N := 35) [(.slice A0 (List.length l0) c0)] Tryz.func126 rfl rfl rfl (vok_c (vok_sl m0) rfl) fun a fr => ?_
    refine wp_seq ?_
    refine wp_region_lit ?_
    refine wl_run orc_ok 2 rfl fr fun a fr => ?_
    refine wpList_nil ?_
    refine then_n ?_
    refine wp_seq ?_
    refine wp_seq ?_
    refine wp_region_lit ?_
    refine wl_run orc_ok 3 rfl fr fun a fr => ?_
    refine wpList_nil ?_
    refine then_n ?_
    refine cw_if fr rfl h (fun h => ?_) (fun h => ?_)
    · refine wp_seq ?_
      refine wp_region_lit ?_
      refine wl_run orc_ok 2 rfl fr fun a fr => ?_
      refine wpList_nil ?_
      refine then_n ?_
      refine wp_ret ?_
      refine then_r ?_
      have S : Sat w0 _ [ownA .u8 5 none 0 ([] : List Int)] := S.nilRow .u8 5
      injection h with h
      subst h
      refine ret2 fr rfl rfl rfl ?_
      exact ⟨none, 0, rfl, (by show List.all _ vokC = true; simp only [List.all_cons, List.all_nil, Bool.and_true, Bool.and_eq_true]; exact ⟨fr.vok (d := 2) rfl, fr.vok (d := 3) rfl⟩), S.mask [true]⟩
    · refine wp_skip ?_
      refine then_n ?_
      refine wp_seq ?_
      refine wp_region_lit ?_
      refine wl_run orc_ok 3 rfl fr fun a fr => ?_
      obtain ⟨r1, hr, h⟩ := bnd h
      refine wl_call fr rfl rfl rfl rfl en215 (number.walk (IntKind.wrap .u32 (List.length l0 : Int)) (fr.int (d := 12) rfl) S hr) ?_
      rintro _ w ⟨A2, c3, rfl, hv, S⟩
      refine ⟨_, rfl, hv, fun a fr => ?_⟩
      refine wl_run orc_ok 1 rfl fr fun a fr => ?_
      refine wpList_nil ?_
      refine then_n ?_
      refine wp_seq ?_
      refine wp_region_lit ?_
      refine wl_run orc_ok 1 rfl fr fun a fr => ?_
      obtain ⟨hc, h⟩ := ifs h
      have S : Sat w0 _ [ownA .u8 5 none 0 ([] : List Int), ownA .u8 5 A2 c3 r1] := S.nilRow .u8 5
      have hy := (Sat.ownAt S 1 rfl)
      refine wl_app lit45 fr rfl rfl rfl rfl rfl rfl rfl rfl hy hc S ?_
      intro w A4 c5 S
      intro a fr
      refine wl_run orc_ok 1 rfl fr fun a fr => ?_
      obtain ⟨hc, h⟩ := ifs h
      have hy := (Rk.at rk0 S)
      refine wl_app lit45 fr rfl rfl rfl rfl rfl rfl rfl rfl hy hc S ?_
      intro w A6 c7 S
      intro a fr
      refine wl_run orc_ok 1 rfl fr fun a fr => ?_
      refine wpList_nil ?_
      refine then_n ?_
      refine wp_seq ?_
      refine wp_region_lit ?_
      refine wl_run orc_ok 1 rfl fr fun a fr => ?_
      obtain ⟨hc, h⟩ := ifs h
      have S : Sat w0 _ [ownA .u8 5 none 0 ([] : List Int), ownA .u8 5 A6 c7 ((([] : List Int) ++ r1) ++ l0), ownA .u8 5 A2 c3 r1] := S.nilRow .u8 5
      have hy := (Sat.ownAt S 2 rfl)
      refine wl_app lit45 fr rfl rfl rfl rfl rfl rfl rfl rfl hy hc S ?_
      intro w A8 c9 S
      intro a fr
      refine wl_run orc_ok 1 rfl fr fun a fr => ?_
      obtain ⟨hc, h⟩ := ifs h
      obtain ⟨y10, hn0, h⟩ := lt_h h
      have H := of3_call (A := A6) (c := c7) (l := ((([] : List Int) ++ r1) ++ l0)) (Sat.ownAt S 1 rfl) hc S
      rw [hn0] at H
      refine wl_call fr rfl rfl rfl rfl en216 H ?_
      clear H
      rintro _ w ⟨rfl, hv, S⟩
      refine ⟨_, rfl, hv, fun a fr => ?_⟩
      obtain ⟨r11, hr, h⟩ := bnd h
      refine wl_call fr rfl rfl rfl rfl en215 (number.walk y10 (fr.int (d := 21) rfl) S hr) ?_
      rintro _ w ⟨A12, c13, rfl, hv, S⟩
      refine ⟨_, rfl, hv, fun a fr => ?_⟩
      obtain ⟨hc, h⟩ := ifs h
      have S : Sat w0 _ [ownA .u8 5 A8 c9 (([] : List Int) ++ r1), ownA .u8 5 A12 c13 r11, ownA .u8 5 A6 c7 ((([] : List Int) ++ r1) ++ l0), ownA .u8 5 A2 c3 r1] := S.frontAt 1 rfl
      have hy := (Sat.ownAt S 1 rfl)
      refine wl_app lit45 fr rfl rfl rfl rfl rfl rfl rfl rfl hy hc S ?_
      intro w A14 c15 S
      have S : Sat w0 _ [ownA .u8 5 A14 c15 ((([] : List Int) ++ r1) ++ r11), ownA .u8 5 A6 c7 ((([] : List Int) ++ r1) ++ l0), ownA .u8 5 A2 c3 r1] := S.mask [true, false, true, true]
      intro a fr
      refine wl_run orc_ok 1 rfl fr fun a fr => ?_
      refine wpList_nil ?_
      refine then_n ?_
      refine wp_seq ?_
      refine wp_region_lit ?_
      refine wl_run orc_ok 2 rfl fr fun a fr => ?_
      obtain ⟨hc, h⟩ := ifs h
      have hy := (Rk.at rk0 S)
      refine wl_app lit45 fr rfl rfl rfl rfl rfl rfl rfl rfl hy hc S ?_
      intro w A16 c17 S
      intro a fr
      refine wl_run orc_ok 1 rfl fr fun a fr => ?_
      refine wpList_nil ?_
      refine then_n ?_
      refine wp_seq ?_
      refine wp_block ?_
      have S : Sat w0 _ [ownA .u8 5 A16 c17 (((([] : List Int) ++ r1) ++ r11) ++ l0)] := S.mask [true, false, false]
      refine cw_loop (fun k1 a w => ∃ A18 : Option Addr, ∃ c19 : Nat, ∃ l20 : List Int, Fr 35 a [(6, (.slice A18 (List.length l20) c19))] ∧ Sat w0 w [ownA .u8 5 A18 c19 l20] ∧ (Put.l1 k1 l20) = some r) k ⟨A16, c17, (((([] : List Int) ++ r1) ++ r11) ++ l0), fr.sub ⟨rfl, trivial⟩, S, h⟩ ?_ ?_
      · rintro a w ⟨A18, c19, l20, -, -, h⟩
        simp only [Put.l1] at h
        cases h
      · rintro k1 a w ⟨A18, c19, l20, fr, S, h⟩
        rw [Put.l1] at h
        refine wp_seq ?_
        refine wp_seq ?_
        refine wp_region_lit ?_
        refine wl_run orc_ok 4 rfl fr fun a fr => ?_
        refine wpList_nil ?_
        refine then_n ?_
        refine cw_if fr rfl h (fun h => ?_) (fun h => ?_)
        · refine wp_skip ?_
          refine then_n ?_
          refine wp_block ?_
          refine wp_region_lit ?_
          refine wl_run orc_ok 1 rfl fr fun a fr => ?_
          refine wl_lit (xs := [(0 : Int)]) orc_ok lit45 fr rfl rfl rfl rfl ⟨rfl, rfl, trivial⟩ rfl rfl S ?_
          intro w A24 c25 S
          intro a fr
          obtain ⟨hc, h⟩ := ifs h
          have S : Sat w0 _ [ownA .u8 5 A18 c19 l20, ownA .u8 5 A24 c25 [(0 : Int)]] := S.frontAt 1 rfl
          have hy := (Sat.ownAt S 1 rfl)
          refine wl_app lit45 fr rfl rfl rfl rfl rfl rfl rfl rfl hy hc S ?_
          intro w A26 c27 S
          have S : Sat w0 _ [ownA .u8 5 A26 c27 (l20 ++ [(0 : Int)])] := S.mask [true, false]
          intro a fr
          refine wl_run orc_ok 1 rfl fr fun a fr => ?_
          refine wpList_nil ?_
          refine blk_n ?_
          exact ⟨A26, c27, (l20 ++ [(0 : Int)]), fr.sub ⟨rfl, trivial⟩, S, h⟩
        · refine wp_exit ?_
          refine then_e ?_
          refine then_e ?_
          refine blk_y ?_
          refine then_n ?_
          refine wp_seq ?_
          refine wp_region_lit ?_
          refine wl_run orc_ok 3 rfl fr fun a fr => ?_
          refine wpList_nil ?_
          refine then_n ?_
          refine wp_ret ?_
          injection h with h
          subst h
          refine ret2 fr rfl rfl rfl ?_
          exact ⟨A18, c19, rfl, (by show List.all _ vokC = true; simp only [List.all_cons, List.all_nil, Bool.and_true, Bool.and_eq_true]; exact ⟨fr.vok (d := 2) rfl, fr.vok (d := 3) rfl⟩), S.mask [true]⟩
  exact (key w rfl (Sat.start w)).mono fun e w' ⟨A800, c800, h1, h2, h3⟩ => ⟨A800, c800, h1, h2, S.join h3 (fun A hA F => by simp only [List.mem_cons, List.not_mem_nil, or_false] at hA; subst hA; exact own_lower S.below.size F)⟩
set_option maxRecDepth 100000 in
set_option maxHeartbeats 4000000 in
theorem Get.walk (k : Nat) (A0 : Option Addr) (c0 : Nat) (l0 : List Int) {w0 w : World} {R : List Asn} (rk0 : Rk .u8 w A0 l0) (m0 : l0.length ≤ c0 ∧ c0 ≤ maxLen) (S : Sat w0 w R) {r : List Int × Int × Int} (h : Get.f k l0 = some r) :
    Calls Tryz.prog 122 #[(.slice A0 (List.length l0) c0)] w fun e w' => ∃ A800 : Option Addr, ∃ c800 : Nat, e = .returned (.tuple #[(.slice A800 (List.length r.1) c800), (.int .i64 r.2.1), (.int .i64 r.2.2)]) ∧ vok (.tuple #[(.slice A800 (List.length r.1) c800), (.int .i64 r.2.1), (.int .i64 r.2.2)]) = true ∧ Sat w0 w' (ownA .u8 5 A800 c800 r.1 :: R) := by
  have key : ∀ w0 : World, w0 = w → Sat w0 w [] → Calls Tryz.prog 122 #[(.slice A0 (List.length l0) c0)] w fun e w' => ∃ A800 : Option Addr, ∃ c800 : Nat, e = .returned (.tuple #[(.slice A800 (List.length r.1) c800), (.int .i64 r.2.1), (.int .i64 r.2.2)]) ∧ vok (.tuple #[(.slice A800 (List.length r.1) c800), (.int .i64 r.2.1), (.int .i64 r.2.2)]) = true ∧ Sat w0 w' [ownA .u8 5 A800 c800 r.1] := by
    clear S
    intro w0 hw S
    rw [← hw] at rk0
    clear hw
    unfold Get.f at h
    refine calls_start (N := 64) [(.slice A0 (List.length l0) c0)] Tryz.func122 rfl rfl rfl (vok_c (vok_sl m0) rfl) fun a fr => ?_
    refine wp_seq ?_
    refine wp_region_lit ?_
    refine wl_run orc_ok 3 rfl fr fun a fr => ?_
    refine wpList_nil ?_
    refine then_n ?_
    refine wp_seq ?_
    refine wp_seq ?_
    refine wp_region_lit ?_
    refine wl_run orc_ok 3 rfl fr fun a fr => ?_
    refine wpList_nil ?_
    refine then_n ?_
    refine cw_if fr rfl h (fun h => ?_) (fun h => ?_)
    · refine wp_seq ?_
      refine wp_region_lit ?_
      refine wl_run orc_ok 3 rfl fr fun a fr => ?_
      refine wpList_nil ?_
      refine then_n ?_
      refine wp_ret ?_
      refine then_r ?_
      have S : Sat w0 _ [ownA .u8 5 none 0 ([] : List Int)] := S.nilRow .u8 5
      injection h with h
      subst h
      refine ret3 fr rfl rfl rfl rfl ?_
      exact ⟨none, 0, rfl, (by show List.all _ vokC = true; simp only [List.all_cons, List.all_nil, Bool.and_true, Bool.and_eq_true]; exact ⟨fr.vok (d := 2) rfl, fr.vok (d := 3) rfl, fr.vok (d := 4) rfl⟩), S.mask [true]⟩
    · refine wp_skip ?_
      refine then_n ?_
      refine wp_seq ?_
      refine wp_region_sl [.one (0, true, some 13), .one (1, true, some 14), .one (2, true, some 15), .one (3, true, some 16), .one (4, true, some 17), .one (5, true, some 18), .one (6, true, some 19), .one (7, true, some 20), .one (8, true, some 21), .one (9, true, some 22), .one (10, true, some 23), .one (11, true, some 24), .one (12, true, some 25), .one (13, true, some 26), .one (14, true, some 27), .one (15, true, some 28), .one (16, true, some 29), .one (17, true, some 30), .one (18, true, some 31), .one (19, true, some 32), .one (20, true, some 33), .one (21, true, some 34), .one (22, true, some 5)]
        [.one ⟨true, some 13, (Go.Op.move (Go.Operand.tmp 0)), 45, none⟩,
    .one ⟨true, some 14, (Go.Op.indexAddr 45 (Go.Operand.tmp 13) (Go.Operand.const (Go.Value.int Go.IntKind.i64 0))), 0, none⟩,
    .one ⟨true, some 15, (Go.Op.load 5 (Go.Operand.tmp 14)), 5, none⟩,
    .one ⟨true, some 16, (Go.Op.convert 5 2 (Go.Operand.tmp 15)), 2, none⟩,
    .one ⟨true, some 17, (Go.Op.binOp Go.BinOp.mul 2 (Go.Operand.const (Go.Value.int Go.IntKind.i64 16777216)) (Go.Operand.tmp 16) 2), 2, none⟩,
    .one ⟨true, some 18, (Go.Op.move (Go.Operand.tmp 0)), 45, none⟩,
    .one ⟨true, some 19, (Go.Op.indexAddr 45 (Go.Operand.tmp 18) (Go.Operand.const (Go.Value.int Go.IntKind.i64 1))), 0, none⟩,
    .one ⟨true, some 20, (Go.Op.load 5 (Go.Operand.tmp 19)), 5, none⟩,
    .one ⟨true, some 21, (Go.Op.convert 5 2 (Go.Operand.tmp 20)), 2, none⟩,
    .one ⟨true, some 22, (Go.Op.binOp Go.BinOp.mul 2 (Go.Operand.const (Go.Value.int Go.IntKind.i64 65536)) (Go.Operand.tmp 21) 2), 2, none⟩,
    .one ⟨true, some 23, (Go.Op.binOp Go.BinOp.add 2 (Go.Operand.tmp 17) (Go.Operand.tmp 22) 2), 2, none⟩,
    .one ⟨true, some 24, (Go.Op.move (Go.Operand.tmp 0)), 45, none⟩,
    .one ⟨true, some 25, (Go.Op.indexAddr 45 (Go.Operand.tmp 24) (Go.Operand.const (Go.Value.int Go.IntKind.i64 2))), 0, none⟩,
    .one ⟨true, some 26, (Go.Op.load 5 (Go.Operand.tmp 25)), 5, none⟩,
    .one ⟨true, some 27, (Go.Op.convert 5 2 (Go.Operand.tmp 26)), 2, none⟩,
    .one ⟨true, some 28, (Go.Op.binOp Go.BinOp.mul 2 (Go.Operand.const (Go.Value.int Go.IntKind.i64 256)) (Go.Operand.tmp 27) 2), 2, none⟩,
    .one ⟨true, some 29, (Go.Op.binOp Go.BinOp.add 2 (Go.Operand.tmp 23) (Go.Operand.tmp 28) 2), 2, none⟩,
    .one ⟨true, some 30, (Go.Op.move (Go.Operand.tmp 0)), 45, none⟩,
    .one ⟨true, some 31, (Go.Op.indexAddr 45 (Go.Operand.tmp 30) (Go.Operand.const (Go.Value.int Go.IntKind.i64 3))), 0, none⟩,
    .one ⟨true, some 32, (Go.Op.load 5 (Go.Operand.tmp 31)), 5, none⟩,
    .one ⟨true, some 33, (Go.Op.convert 5 2 (Go.Operand.tmp 32)), 2, none⟩,
    .one ⟨true, some 34, (Go.Op.binOp Go.BinOp.add 2 (Go.Operand.tmp 29) (Go.Operand.tmp 33) 2), 2, none⟩,
    .one ⟨true, some 5, (Go.Op.assign (Go.Operand.tmp 34)), 2, none⟩]
        (fun w => Sat w0 w []) rfl (by kernel_rfl) (by kernel_rfl) (S.drew.mask []) ?_
      have S := S.drew
      refine sl_run orc_ok 1 rfl fr fun a fr => ?_
      obtain ⟨hc, h⟩ := ifs h
      refine sl_ld orc_ok (fun _ S => Rk.at rk0 S) fr rfl rfl rfl rfl rfl rfl rfl rfl rfl rfl rfl rfl rfl rfl rfl rfl rfl rfl hc (Sat.mask S []) fun a fr => ?_
      refine sl_run orc_ok 3 rfl fr fun a fr => ?_
      obtain ⟨hc, h⟩ := ifs h
      refine sl_ld orc_ok (fun _ S => Rk.at rk0 S) fr rfl rfl rfl rfl rfl rfl rfl rfl rfl rfl rfl rfl rfl rfl rfl rfl rfl rfl hc (Sat.mask S []) fun a fr => ?_
      refine sl_run orc_ok 4 rfl fr fun a fr => ?_
      obtain ⟨hc, h⟩ := ifs h
      refine sl_ld orc_ok (fun _ S => Rk.at rk0 S) fr rfl rfl rfl rfl rfl rfl rfl rfl rfl rfl rfl rfl rfl rfl rfl rfl rfl rfl hc (Sat.mask S []) fun a fr => ?_
      refine sl_run orc_ok 4 rfl fr fun a fr => ?_
      obtain ⟨hc, h⟩ := ifs h
      refine sl_ld orc_ok (fun _ S => Rk.at rk0 S) fr rfl rfl rfl rfl rfl rfl rfl rfl rfl rfl rfl rfl rfl rfl rfl rfl rfl rfl hc (Sat.mask S []) fun a fr => ?_
      refine sl_run orc_ok 3 rfl fr fun a fr => ?_
      refine sl_end ?_
      refine then_n ?_
      refine wp_seq ?_
      refine wp_seq ?_
      refine wp_region_lit ?_
      refine wl_run orc_ok 2 rfl fr fun a fr => ?_
      refine wpList_nil ?_
      refine then_n ?_
      refine cw_if fr rfl h (fun h => ?_) (fun h => ?_)
      · refine wp_seq ?_
        refine wp_region_lit ?_
        refine wl_run orc_ok 3 rfl fr fun a fr => ?_
        refine wpList_nil ?_
        refine then_n ?_
        refine wp_ret ?_
        refine then_r ?_
        have S : Sat w0 _ [ownA .u8 5 none 0 ([] : List Int)] := S.nilRow .u8 5
        injection h with h
        subst h
        refine ret3 fr rfl rfl rfl rfl ?_
        exact ⟨none, 0, rfl, (by show List.all _ vokC = true; simp only [List.all_cons, List.all_nil, Bool.and_true, Bool.and_eq_true]; exact ⟨fr.vok (d := 2) rfl, fr.vok (d := 3) rfl, fr.vok (d := 4) rfl⟩), S.mask [true]⟩
      · refine wp_skip ?_
        refine then_n ?_
        refine wp_seq ?_
        refine wp_region_lit ?_
        refine wl_run orc_ok 1 rfl fr fun a fr => ?_
        obtain ⟨r1, hr, h⟩ := bnd h
        refine wl_call fr rfl rfl rfl rfl en127 (Sectors.walk (IntKind.wrap .i64 ((IntKind.wrap .i64 ((IntKind.wrap .i64 ((IntKind.wrap .i64 ((16777216 : Int) * (IntKind.wrap .i64 (List.getD l0 (Int.toNat (0 : Int)) 0)))) + (IntKind.wrap .i64 ((65536 : Int) * (IntKind.wrap .i64 (List.getD l0 (Int.toNat (1 : Int)) 0)))))) + (IntKind.wrap .i64 ((256 : Int) * (IntKind.wrap .i64 (List.getD l0 (Int.toNat (2 : Int)) 0)))))) + (IntKind.wrap .i64 (List.getD l0 (Int.toNat (3 : Int)) 0)))) (fr.int (d := 37) rfl) S hr) ?_
        rintro _ w ⟨rfl, hv, S⟩
        refine ⟨_, rfl, hv, fun a fr => ?_⟩
        refine wl_run orc_ok 1 rfl fr fun a fr => ?_
        refine wpList_nil ?_
        refine then_n ?_
        refine wp_seq ?_
        refine wp_seq ?_
        refine wp_region_lit ?_
        refine wl_run orc_ok 5 rfl fr fun a fr => ?_
        refine wpList_nil ?_
        refine then_n ?_
        refine cw_if fr rfl h (fun h => ?_) (fun h => ?_)
        · refine wp_seq ?_
          refine wp_region_lit ?_
          refine wl_run orc_ok 3 rfl fr fun a fr => ?_
          refine wpList_nil ?_
          refine then_n ?_
          refine wp_ret ?_
          refine then_r ?_
          have S : Sat w0 _ [ownA .u8 5 none 0 ([] : List Int)] := S.nilRow .u8 5
          injection h with h
          subst h
          refine ret3 fr rfl rfl rfl rfl ?_
          exact ⟨none, 0, rfl, (by show List.all _ vokC = true; simp only [List.all_cons, List.all_nil, Bool.and_true, Bool.and_eq_true]; exact ⟨fr.vok (d := 2) rfl, fr.vok (d := 3) rfl, fr.vok (d := 4) rfl⟩), S.mask [true]⟩
        · refine wp_skip ?_
          refine then_n ?_
          refine wp_seq ?_
          refine wp_region_lit ?_
          refine wl_run orc_ok 3 rfl fr fun a fr => ?_
          obtain ⟨hc, h⟩ := ifs h
          have hm2 : (List.take (Int.toNat (IntKind.wrap .i64 ((8 : Int) + (IntKind.wrap .i64 ((IntKind.wrap .i64 ((IntKind.wrap .i64 ((IntKind.wrap .i64 ((16777216 : Int) * (IntKind.wrap .i64 (List.getD l0 (Int.toNat (0 : Int)) 0)))) + (IntKind.wrap .i64 ((65536 : Int) * (IntKind.wrap .i64 (List.getD l0 (Int.toNat (1 : Int)) 0)))))) + (IntKind.wrap .i64 ((256 : Int) * (IntKind.wrap .i64 (List.getD l0 (Int.toNat (2 : Int)) 0)))))) + (IntKind.wrap .i64 (List.getD l0 (Int.toNat (3 : Int)) 0))))))) l0).length ≤ c0 := (by rw [List.length_take]; exact Nat.le_trans (Nat.min_le_right _ _) (fr.slice (d := 44) rfl).1)
          refine wl_mid orc_ok (l := l0) fr rfl rfl rfl rfl rfl rfl rfl rfl info5 rfl hc fun a fr => ?_
          obtain ⟨hc, h⟩ := ifs h
          have S : Sat w0 _ [ownA .u8 5 none 0 ([] : List Int)] := S.nilRow .u8 5
          have hy := (Rk.at (Rk.drop (n := Int.toNat (8 : Int)) ((Rk.take (rk0) (Int.toNat (IntKind.wrap .i64 ((8 : Int) + (IntKind.wrap .i64 ((IntKind.wrap .i64 ((IntKind.wrap .i64 ((IntKind.wrap .i64 ((16777216 : Int) * (IntKind.wrap .i64 (List.getD l0 (Int.toNat (0 : Int)) 0)))) + (IntKind.wrap .i64 ((65536 : Int) * (IntKind.wrap .i64 (List.getD l0 (Int.toNat (1 : Int)) 0)))))) + (IntKind.wrap .i64 ((256 : Int) * (IntKind.wrap .i64 (List.getD l0 (Int.toNat (2 : Int)) 0)))))) + (IntKind.wrap .i64 (List.getD l0 (Int.toNat (3 : Int)) 0))))))))) hm2) S)
          refine wl_app lit45 fr rfl rfl rfl rfl rfl rfl rfl rfl hy hc S ?_
          intro w A3 c4 S
          intro a fr
          refine wl_run orc_ok 1 rfl fr fun a fr => ?_
          refine wpList_nil ?_
          refine then_n ?_
          refine wp_seq ?_
          refine wp_region_lit ?_
          refine wl_run orc_ok 1 rfl fr fun a fr => ?_
          obtain ⟨r5, hr, h⟩ := bnd h
          refine wl_call fr rfl rfl rfl rfl en126 (Put.walk k A3 c4 (([] : List Int) ++ (List.drop (Int.toNat (8 : Int)) (List.take (Int.toNat (IntKind.wrap .i64 ((8 : Int) + (IntKind.wrap .i64 ((IntKind.wrap .i64 ((IntKind.wrap .i64 ((IntKind.wrap .i64 ((16777216 : Int) * (IntKind.wrap .i64 (List.getD l0 (Int.toNat (0 : Int)) 0)))) + (IntKind.wrap .i64 ((65536 : Int) * (IntKind.wrap .i64 (List.getD l0 (Int.toNat (1 : Int)) 0)))))) + (IntKind.wrap .i64 ((256 : Int) * (IntKind.wrap .i64 (List.getD l0 (Int.toNat (2 : Int)) 0)))))) + (IntKind.wrap .i64 (List.getD l0 (Int.toNat (3 : Int)) 0))))))) l0))) (Sat.ownAt S 0 rfl) (fr.slice (d := 50) rfl) S hr) ?_
          rintro _ w ⟨A6, c7, rfl, hv, S⟩
          refine ⟨_, rfl, hv, fun a fr => ?_⟩
          refine wl_run orc_ok 5 rfl fr fun a fr => ?_
          refine wpList_nil ?_
          refine then_n ?_
          refine wp_seq ?_
          refine wp_seq ?_
          refine wp_region_sl [.one (0, true, some 54), .one (1, true, some 55), .one (2, true, some 56), .one (3, true, some 57), .one (4, true, some 58), .one (5, true, some 59), .one (6, true, some 60), .one (7, true, some 61)]
            [.one ⟨true, some 54, (Go.Op.move (Go.Operand.tmp 8)), 45, none⟩,
    .one ⟨true, some 55, (Go.Op.convert 45 9 (Go.Operand.tmp 54)), 9, none⟩,
    .one ⟨true, some 56, (Go.Op.move (Go.Operand.tmp 0)), 45, none⟩,
    .one ⟨true, some 57, (Go.Op.move (Go.Operand.tmp 6)), 3, none⟩,
    .one ⟨true, some 58, (Go.Op.binOp Go.BinOp.mul 3 (Go.Operand.tmp 57) (Go.Operand.const (Go.Value.int Go.IntKind.i64 64)) 3), 3, none⟩,
    .one ⟨true, some 59, (Go.Op.slice 45 (Go.Operand.tmp 56) none (some (Go.Operand.tmp 58)) none), 45, none⟩,
    .one ⟨true, some 60, (Go.Op.convert 45 9 (Go.Operand.tmp 59)), 9, none⟩,
    .one ⟨true, some 61, (Go.Op.binOp Go.BinOp.neq 9 (Go.Operand.tmp 55) (Go.Operand.tmp 60) 9), 4, none⟩]
            (fun w => Sat w0 w [ownA .u8 5 A6 c7 r5.1, ownA .u8 5 A3 c4 (([] : List Int) ++ (List.drop (Int.toNat (8 : Int)) (List.take (Int.toNat (IntKind.wrap .i64 ((8 : Int) + (IntKind.wrap .i64 ((IntKind.wrap .i64 ((IntKind.wrap .i64 ((IntKind.wrap .i64 ((16777216 : Int) * (IntKind.wrap .i64 (List.getD l0 (Int.toNat (0 : Int)) 0)))) + (IntKind.wrap .i64 ((65536 : Int) * (IntKind.wrap .i64 (List.getD l0 (Int.toNat (1 : Int)) 0)))))) + (IntKind.wrap .i64 ((256 : Int) * (IntKind.wrap .i64 (List.getD l0 (Int.toNat (2 : Int)) 0)))))) + (IntKind.wrap .i64 (List.getD l0 (Int.toNat (3 : Int)) 0))))))) l0)))]) rfl (by kernel_rfl) (by kernel_rfl) (S.drew.mask [true, true]) ?_
          have S := S.drew
          refine sl_run orc_ok 1 rfl fr fun a fr => ?_
          refine sl_convq Tryz.underlying45 Tryz.underlying5 Tryz.underlying9 (fun _ S => Sat.ownAt S 0 rfl) fr rfl rfl rfl rfl rfl rfl rfl fun a fr => ?_
          refine sl_run orc_ok 3 rfl fr fun a fr => ?_
          obtain ⟨hc, h⟩ := ifs h
          refine sl_takeq orc_ok fr rfl rfl rfl rfl rfl rfl rfl rfl rfl rfl hc fun a fr => ?_
          refine sl_convq Tryz.underlying45 Tryz.underlying5 Tryz.underlying9 (fun _ S => Rk.at (Rk.take rk0 (Int.toNat (IntKind.wrap .i64 (r1 * (64 : Int))))) S) fr rfl rfl rfl rfl rfl rfl rfl fun a fr => ?_
          refine sl_run orc_ok 1 rfl fr fun a fr => ?_
          refine sl_end ?_
          refine then_n ?_
          refine cw_if fr rfl h (fun h => ?_) (fun h => ?_)
          · refine wp_seq ?_
            refine wp_region_lit ?_
            refine wl_run orc_ok 3 rfl fr fun a fr => ?_
            refine wpList_nil ?_
            refine then_n ?_
            refine wp_ret ?_
            refine then_r ?_
            have S : Sat w0 _ [ownA .u8 5 none 0 ([] : List Int), ownA .u8 5 A6 c7 r5.1, ownA .u8 5 A3 c4 (([] : List Int) ++ (List.drop (Int.toNat (8 : Int)) (List.take (Int.toNat (IntKind.wrap .i64 ((8 : Int) + (IntKind.wrap .i64 ((IntKind.wrap .i64 ((IntKind.wrap .i64 ((IntKind.wrap .i64 ((16777216 : Int) * (IntKind.wrap .i64 (List.getD l0 (Int.toNat (0 : Int)) 0)))) + (IntKind.wrap .i64 ((65536 : Int) * (IntKind.wrap .i64 (List.getD l0 (Int.toNat (1 : Int)) 0)))))) + (IntKind.wrap .i64 ((256 : Int) * (IntKind.wrap .i64 (List.getD l0 (Int.toNat (2 : Int)) 0)))))) + (IntKind.wrap .i64 (List.getD l0 (Int.toNat (3 : Int)) 0))))))) l0)))] := S.nilRow .u8 5
            injection h with h
            subst h
            refine ret3 fr rfl rfl rfl rfl ?_
            exact ⟨none, 0, rfl, (by show List.all _ vokC = true; simp only [List.all_cons, List.all_nil, Bool.and_true, Bool.and_eq_true]; exact ⟨fr.vok (d := 2) rfl, fr.vok (d := 3) rfl, fr.vok (d := 4) rfl⟩), S.mask [true, false, false]⟩
          · refine wp_skip ?_
            refine then_n ?_
            refine wp_seq ?_
            refine wp_region_lit ?_
            refine wl_run orc_ok 5 rfl fr fun a fr => ?_
            refine wpList_nil ?_
            refine then_n ?_
            refine wp_ret ?_
            have S : Sat w0 _ [ownA .u8 5 A3 c4 (([] : List Int) ++ (List.drop (Int.toNat (8 : Int)) (List.take (Int.toNat (IntKind.wrap .i64 ((8 : Int) + (IntKind.wrap .i64 ((IntKind.wrap .i64 ((IntKind.wrap .i64 ((IntKind.wrap .i64 ((16777216 : Int) * (IntKind.wrap .i64 (List.getD l0 (Int.toNat (0 : Int)) 0)))) + (IntKind.wrap .i64 ((65536 : Int) * (IntKind.wrap .i64 (List.getD l0 (Int.toNat (1 : Int)) 0)))))) + (IntKind.wrap .i64 ((256 : Int) * (IntKind.wrap .i64 (List.getD l0 (Int.toNat (2 : Int)) 0)))))) + (IntKind.wrap .i64 (List.getD l0 (Int.toNat (3 : Int)) 0))))))) l0))), ownA .u8 5 A6 c7 r5.1] := S.frontAt 1 rfl
            injection h with h
            subst h
            refine ret3 fr rfl rfl rfl rfl ?_
            exact ⟨A3, c4, rfl, (by show List.all _ vokC = true; simp only [List.all_cons, List.all_nil, Bool.and_true, Bool.and_eq_true]; exact ⟨fr.vok (d := 2) rfl, fr.vok (d := 3) rfl, fr.vok (d := 4) rfl⟩), S.mask [true, false]⟩
  exact (key w rfl (Sat.start w)).mono fun e w' ⟨A800, c800, h1, h2, h3⟩ => ⟨A800, c800, h1, h2, S.join h3 (fun A hA F => by simp only [List.mem_cons, List.not_mem_nil, or_false] at hA; subst hA; exact own_lower S.below.size F)⟩
end Go.Proofs.YticnjkdaccacaaaGreatDoor.QGet
end
section
namespace Go.Proofs.YticnjkdaccacaaaGreatDoor.Pl
open Go Go.RowKit Sx Base _root_.Go.Proofs.YticnjkdaccacaaaGreatDoor.Own
theorem w64 {x : Int} (h0 : -9223372036854775808 ≤ x) (h1 : x ≤ 9223372036854775807) : IntKind.wrap .i64 x = x := IntWalk.i64_in x ⟨h0, h1⟩
theorem w64s {n : Nat} (h : n ≤ 1000000000000000) : IntKind.wrap .i64 ((n : Int) + (1 : Int)) = ((n + 1 : Nat) : Int) := by rw [w64 (by omega) (by omega)]; omega
theorem wu8 (x : Int) : IntKind.wrap .u8 x = x % 256 := by rw [IntKind.wrap_u8]
theorem tm {x m : Int} (h0 : 0 ≤ x) : Int.tmod x m = x % m := Int.tmod_eq_emod_of_nonneg h0
theorem wf8 {l : List Int} (v : ∀ n ∈ l, (Lit.int .u8 n).wf = true) {i : Nat} (hi : i < l.length) : 0 ≤ l.getD i 0 ∧ l.getD i 0 ≤ 255 := by
  have hm : l.getD i 0 ∈ l := by rw [List.getD_eq_getElem?_getD, List.getElem?_eq_getElem hi]; exact List.getElem_mem hi
  have := v _ hm
  rw [wf_int] at this
  have h1 : IntKind.u8.min = 0 := by decide
  have h2 : IntKind.u8.max = 255 := by decide
  omega
theorem wf16 {l : List Int} (v : ∀ n ∈ l, (Lit.int .u16 n).wf = true) {i : Nat} (hi : i < l.length) : 0 ≤ l.getD i 0 ∧ l.getD i 0 ≤ 65535 := by
  have hm : l.getD i 0 ∈ l := by rw [List.getD_eq_getElem?_getD, List.getElem?_eq_getElem hi]; exact List.getElem_mem hi
  have := v _ hm
  rw [wf_int] at this
  have h1 : IntKind.u16.min = 0 := by decide
  have h2 : IntKind.u16.max = 65535 := by decide
  omega
theorem wfu8 {x : Int} (v : (Lit.int .u8 x).wf = true) : 0 ≤ x ∧ x ≤ 255 := by
  rw [wf_int] at v
  have h1 : IntKind.u8.min = 0 := by decide
  have h2 : IntKind.u8.max = 255 := by decide
  omega
theorem wfu32 {x : Int} (v : (Lit.int .u32 x).wf = true) : 0 ≤ x ∧ x ≤ 4294967295 := by
  rw [wf_int] at v
  have h1 : IntKind.u32.min = 0 := by decide
  have h2 : IntKind.u32.max = 4294967295 := by decide
  omega
theorem wfu64 {x : Int} (v : (Lit.int .u64 x).wf = true) : 0 ≤ x ∧ x ≤ 18446744073709551615 := by
  rw [wf_int] at v
  have h1 : IntKind.u64.min = 0 := by decide
  have h2 : IntKind.u64.max = 18446744073709551615 := by decide
  omega
theorem dt {p : Prop} [Decidable p] (h : p) : decide p = true := by simp [h]
theorem df {p : Prop} [Decidable p] (h : ¬ p) : decide p = false := by simp [h]
theorem ift {ρ : Type} {b : Bool} {x y : ρ} (h : b = true) : (if b = true then x else y) = x := by rw [if_pos h]
theorem iff_ {ρ : Type} {b : Bool} {x y : ρ} (h : b = false) : (if b = true then x else y) = y := by rw [h]; rfl
theorem bne_no {x y : Int} (h : x = y) : (x != y) = false := by subst h; simp
theorem beq_yes {x y : Int} (h : x = y) : (x == y) = true := by subst h; simp
theorem beq_no {x y : Int} (h : x ≠ y) : (x == y) = false := by simpa using h
end Go.Proofs.YticnjkdaccacaaaGreatDoor.Pl
end
section
namespace Go.Proofs.YticnjkdaccacaaaGreatDoor.QGet
open Go Go.RowKit Sx Base _root_.Go.Proofs.YticnjkdaccacaaaGreatDoor.Own Pl
theorem wrap8 (x : Int) : IntKind.wrap .u8 x = x % 256 := IntKind.wrap_u8 x
theorem wrap32 {x : Int} (h0 : 0 ≤ x) (h1 : x < 4294967296) : IntKind.wrap .u32 x = x := IntWalk.u32_in x ⟨h0, by omega⟩
theorem number_is {n : Int} (h0 : 0 ≤ n) (h1 : n < 4294967296) : number.f n = some (Frames.head n) := by
  unfold number.f
  rw [Frames.head_eq, Int.tdiv_eq_ediv_of_nonneg h0, Int.tdiv_eq_ediv_of_nonneg h0, Int.tdiv_eq_ediv_of_nonneg h0, wrap8, wrap8, wrap8, wrap8, wrap32 (by omega) (by omega), wrap32 (by omega) (by omega), wrap32 (by omega) (by omega)]
theorem pad_is : ∀ (d k : Nat) (b : List Int) (m : Nat), d < k → d < 64 → b.length + d = m * 64 → b.length ≤ 1000000 → Put.l1 k b = some (b ++ List.replicate d 0, 0) := by
  intro d
  induction d with
  | zero =>
    intro k b m hk _ hb hl
    obtain ⟨k, rfl⟩ : ∃ q, k = q + 1 := ⟨k - 1, by omega⟩
    have e : Int.tmod (b.length : Int) 64 = 0 := by rw [tm (by omega)]; omega
    rw [Put.l1, e, iff_ (by rfl), List.replicate_zero, List.append_nil]
  | succ d ih =>
    intro k b m hk hd hb hl
    obtain ⟨k, rfl⟩ : ∃ q, k = q + 1 := ⟨k - 1, by omega⟩
    have e : (Int.tmod (b.length : Int) 64 != 0) = true := by rw [tm (by omega)]; simp; omega
    rw [Put.l1, ift e, if_pos (by simp; omega), ih k (b ++ [0]) m (by omega) (by omega) (by simp; omega) (by simp; omega), List.append_assoc, List.replicate_succ]
    rfl
theorem put_is (l : List Int) (hl : l.length ≤ 20000) (k : Nat) (hk : 70 ≤ k) : Put.f k l = some (putR l, putE l) := by
  unfold Put.f putR putE
  by_cases h : l.length ≤ 16384
  · rw [if_pos h, if_pos h, iff_ (df (by omega)), wrap32 (by omega) (by omega), number_is (by omega) (by omega), Option.bind_some]
    have h4 : (Frames.head (l.length : Int)).length = 4 := rfl
    have hr := Crc.num_range (Crc.on 0#32 ([] ++ Frames.head (l.length : Int) ++ l))
    have h4' : ∀ n, (Frames.head n).length = 4 := fun _ => rfl
    rw [if_pos (by rw [h4]; decide), if_pos (by rw [List.nil_append, h4]; omega), if_pos (by rw [h4]; decide), if_pos (by rw [List.nil_append, List.length_append, h4]; omega), lt_is rfl, number_is hr.1 hr.2, Option.bind_some, if_pos (by rw [List.nil_append, h4, h4']; decide), if_pos (by rw [List.nil_append, List.length_append, h4, h4']; omega)]
    have hlen : ([] ++ Frames.head (l.length : Int) ++ Frames.head (Crc.num (Crc.on 0#32 ([] ++ Frames.head (l.length : Int) ++ l))) ++ l).length = 8 + l.length := by
      rw [List.nil_append, List.length_append, List.length_append, h4, h4']
    have hn := Frames.nsec_ge l.length
    have hn2 : Frames.nsec l.length * 64 < l.length + 8 + 64 := by unfold Frames.nsec; omega
    rw [pad_is (Frames.nsec l.length * 64 - 8 - l.length) k _ (Frames.nsec l.length) (by omega) (by omega) (by rw [hlen]; omega) (by rw [hlen]; omega), Frames.put_eq, List.nil_append, Crc.on_append]
    simp only [List.append_assoc]
  · rw [if_neg h, if_neg h, ift (dt (by omega))]
theorem sectors_is {n : Nat} (hn : n ≤ 1000000) : Sectors.f (n : Int) = some ((Frames.nsec n : Nat) : Int) := by
  unfold Sectors.f
  have e : IntKind.wrap .i64 (Int.tdiv (IntKind.wrap .i64 (IntKind.wrap .i64 (IntKind.wrap .i64 (8 + (n : Int)) + 64) - 1)) 64) = ((Frames.nsec n : Nat) : Int) := by
    rw [w64 (x := 8 + (n : Int)) (by omega) (by omega), w64 (x := 8 + (n : Int) + 64) (by omega) (by omega), w64 (x := 8 + (n : Int) + 64 - 1) (by omega) (by omega), Int.tdiv_eq_ediv_of_nonneg (by omega), w64 (by omega) (by omega)]
    unfold Frames.nsec
    omega
  rw [lt_is e]
theorem str_eq {a b : List Int} (ha : Sums.Bts a) (hb : Sums.Bts b) : (ByteArray.toList (strOfNums a) == ByteArray.toList (strOfNums b)) = decide (a = b) := by
  by_cases h : a = b
  · subst h; simp
  · rw [decide_eq_false h]
    simp only [beq_eq_false_iff_ne]
    intro e
    rw [ByteArray.toList_eq, ByteArray.toList_eq] at e
    have e2 : (strOfNums a).data = (strOfNums b).data := Array.toList_inj.1 e
    have e3 : strOfNums a = strOfNums b := by
      cases hx : strOfNums a with
      | mk x =>
        cases hy : strOfNums b with
        | mk y =>
          rw [hx, hy] at e2
          simp only at e2
          rw [e2]
    exact h (Same.str_inj a b ha hb e3)
theorem get_is (b : List Int) (hl : b.length ≤ 30000) (hb : Sums.Bts b) (k : Nat) (hk : 70 ≤ k) : Get.f k b = some (getR b, getN b, getE b) := by
  unfold Get.f
  by_cases h8 : b.length < 8
  · have hn : Frames.get b = none := by unfold Frames.get; rw [if_pos h8]
    rw [ift (dt (by omega))]
    unfold getR getN getE
    rw [hn]
  have b0 := hb.getD (j := 0) (by omega)
  have b1 := hb.getD (j := 1) (by omega)
  have b2 := hb.getD (j := 2) (by omega)
  have b3 := hb.getD (j := 3) (by omega)
  have hv : Frames.val b 4 = 16777216 * b.getD 0 0 + 65536 * b.getD 1 0 + 256 * b.getD 2 0 + b.getD 3 0 := by
    simp only [Frames.val]
    omega
  obtain ⟨n, hn⟩ : ∃ n : Nat, Frames.val b 4 = n := ⟨(Frames.val b 4).toNat, by omega⟩
  have hE : IntKind.wrap .i64 (IntKind.wrap .i64 (IntKind.wrap .i64 (IntKind.wrap .i64 (16777216 * IntKind.wrap .i64 (b.getD (Int.toNat 0) 0)) + IntKind.wrap .i64 (65536 * IntKind.wrap .i64 (b.getD (Int.toNat 1) 0))) + IntKind.wrap .i64 (256 * IntKind.wrap .i64 (b.getD (Int.toNat 2) 0))) + IntKind.wrap .i64 (b.getD (Int.toNat 3) 0)) = (n : Int) := by
    have t0 : b.getD (Int.toNat 0) 0 = b.getD 0 0 := rfl
    have t1 : b.getD (Int.toNat 1) 0 = b.getD 1 0 := rfl
    have t2 : b.getD (Int.toNat 2) 0 = b.getD 2 0 := rfl
    have t3 : b.getD (Int.toNat 3) 0 = b.getD 3 0 := rfl
    rw [t0, t1, t2, t3, w64 (x := b.getD 0 0) (by omega) (by omega), w64 (x := b.getD 1 0) (by omega) (by omega), w64 (x := b.getD 2 0) (by omega) (by omega), w64 (x := b.getD 3 0) (by omega) (by omega), w64 (x := 16777216 * b.getD 0 0) (by omega) (by omega), w64 (x := 65536 * b.getD 1 0) (by omega) (by omega), w64 (x := 256 * b.getD 2 0) (by omega) (by omega), w64 (x := 16777216 * b.getD 0 0 + 65536 * b.getD 1 0) (by omega) (by omega), w64 (x := 16777216 * b.getD 0 0 + 65536 * b.getD 1 0 + 256 * b.getD 2 0) (by omega) (by omega), w64 (by omega) (by omega), ← hn, hv]
  rw [iff_ (df (by omega)), if_pos ⟨by omega, by omega⟩, if_pos ⟨by omega, by omega⟩, if_pos ⟨by omega, by omega⟩, if_pos ⟨by omega, by omega⟩, hE]
  have hg : Frames.get b = if 16384 < (n : Int) then none else if b.length < Frames.nsec n * 64 then none else if Frames.put ((b.drop 8).take n) = b.take (Frames.nsec n * 64) then some ((b.drop 8).take n, Frames.nsec n) else none := by
    unfold Frames.get
    rw [if_neg h8, hn, Int.toNat_natCast]
  unfold getR getN getE
  rw [hg]
  by_cases hbig : (16384 : Int) < n
  · rw [ift (dt (by omega)), if_pos hbig]
  rw [iff_ (df (by omega)), if_neg hbig, sectors_is (by omega), Option.bind_some]
  have hns : Frames.nsec n ≤ 300 := by unfold Frames.nsec; omega
  have hng := Frames.nsec_ge n
  have hw : IntKind.wrap .i64 (((Frames.nsec n : Nat) : Int) * 64) = ((Frames.nsec n * 64 : Nat) : Int) := by rw [w64 (by omega) (by omega)]; omega
  rw [hw]
  by_cases hsh : b.length < Frames.nsec n * 64
  · rw [ift (dt (by omega)), if_pos hsh]
  have hw8 : IntKind.wrap .i64 (8 + (n : Int)) = ((8 + n : Nat) : Int) := by rw [w64 (by omega) (by omega)]; omega
  have hr : List.drop (Int.toNat 8) (List.take (8 + n) b) = (b.drop 8).take n := by
    show List.drop 8 (List.take (8 + n) b) = _
    rw [List.drop_take, show 8 + n - 8 = n by omega]
  have hrl : ((b.drop 8).take n).length = n := by rw [List.length_take, List.length_drop]; omega
  rw [iff_ (df (by omega)), if_neg hsh, hw8, if_pos ⟨⟨by omega, by omega⟩, by omega⟩, Int.toNat_natCast, hr, List.nil_append, if_pos (by rw [hrl]; simp; omega), put_is _ (by rw [hrl]; omega) k hk, Option.bind_some, if_pos ⟨by omega, by omega⟩, Int.toNat_natCast]
  have hpr : putR ((b.drop 8).take n) = Frames.put ((b.drop 8).take n) := by
    unfold putR
    rw [if_pos (by rw [hrl]; omega)]
  simp only [hpr]
  rw [str_eq (Frames.put_bts ((hb.drop 8).take n)) (hb.take _)]
  by_cases hp : Frames.put ((b.drop 8).take n) = b.take (Frames.nsec n * 64)
  · rw [decide_eq_true hp, if_pos hp, iff_ (by rfl)]
  · rw [decide_eq_false hp, if_neg hp, ift (by rfl)]
section
variable {w w0 : World} {R : List Asn}
theorem r5_sec {n : Nat} (hn : n ≤ 1000000) (S : Sat w0 w R) : Calls Tryz.prog 127 #[.int .i64 (n : Int)] w fun e w' => e = .returned (.int .i64 ((Frames.nsec n : Nat) : Int)) ∧ vok (.int .i64 ((Frames.nsec n : Nat) : Int)) = true ∧ Sat w0 w' R :=
  Sectors.walk (n : Int) (by rw [wf_int]; have h1 : IntKind.i64.min = -9223372036854775808 := by decide
                             have h2 : IntKind.i64.max = 9223372036854775807 := by decide
                             omega) S (sectors_is hn)
theorem r5_put {A : Option Addr} {c : Nat} {l : List Int} (rk : Rk .u8 w A l) (hm : l.length ≤ c ∧ c ≤ maxLen) (hl : l.length ≤ 16384) (S : Sat w0 w R) :
    Calls Tryz.prog 126 #[.slice A l.length c] w fun e w' => ∃ A' c', e = .returned (.tuple #[.slice A' (Frames.put l).length c', .int .i64 0]) ∧ vok (.tuple #[.slice A' (Frames.put l).length c', .int .i64 0]) = true ∧ Sat w0 w' (ownA .u8 5 A' c' (Frames.put l) :: R) := by
  have h := put_is l (by omega) 70 (Nat.le_refl _)
  unfold putR putE at h
  rw [if_pos hl, if_pos hl] at h
  exact Put.walk 70 A c l rk hm S h
theorem r5_put_no {A : Option Addr} {c : Nat} {l : List Int} (rk : Rk .u8 w A l) (hm : l.length ≤ c ∧ c ≤ maxLen) (hl : 16384 < l.length) (S : Sat w0 w R) :
    Calls Tryz.prog 126 #[.slice A l.length c] w fun e w' => ∃ A' c', e = .returned (.tuple #[.slice A' ([] : List Int).length c', .int .i64 3]) ∧ vok (.tuple #[.slice A' ([] : List Int).length c', .int .i64 3]) = true ∧ Sat w0 w' (ownA .u8 5 A' c' [] :: R) := by
  have h : Put.f 70 l = some ([], 3) := by
    unfold Put.f
    rw [ift (dt (by omega))]
  exact Put.walk 70 A c l rk hm S h
theorem r5_get {A : Option Addr} {c : Nat} {b : List Int} (rk : Rk .u8 w A b) (hm : b.length ≤ c ∧ c ≤ maxLen) (hl : b.length ≤ 30000) (S : Sat w0 w R) :
    Calls Tryz.prog 122 #[.slice A b.length c] w fun e w' => ∃ A' c', e = .returned (.tuple #[.slice A' (getR b).length c', .int .i64 (getN b), .int .i64 (getE b)]) ∧ vok (.tuple #[.slice A' (getR b).length c', .int .i64 (getN b), .int .i64 (getE b)]) = true ∧ Sat w0 w' (ownA .u8 5 A' c' (getR b) :: R) :=
  Get.walk 70 A c b rk hm S (get_is b hl rk.bytes 70 (Nat.le_refl _))
end
end Go.Proofs.YticnjkdaccacaaaGreatDoor.QGet
end
section
namespace Go.Proofs.YticnjkdaccacaaaGreatDoor.Bytes
open Go.RowKit Base _root_.Go.Proofs.YticnjkdaccacaaaGreatDoor.Own
def Bts (l : List Int) : Prop := ∀ x ∈ l, 0 ≤ x ∧ x < 256
theorem Bts.take {l : List Int} (h : Bts l) (k : Nat) : Bts (l.take k) := fun x hx => h x (List.mem_of_mem_take hx)
theorem Bts.drop {l : List Int} (h : Bts l) (k : Nat) : Bts (l.drop k) := fun x hx => h x (List.mem_of_mem_drop hx)
theorem Bts.append {l m : List Int} (h : Bts l) (h' : Bts m) : Bts (l ++ m) := fun x hx => (List.mem_append.1 hx).elim (h x) (h' x)
theorem Bts.zeros (n : Nat) : Bts (List.replicate n 0) := by intro x hx; rw [List.eq_of_mem_replicate hx]; decide
def bts (l : List Int) : Bool := l.all fun x => decide (0 ≤ x) && decide (x < 256)
theorem bts_of {l : List Int} (h : bts l = true) : Bts l := by
  unfold bts at h; rw [List.all_eq_true] at h
  intro x hx; have := h x hx; simpa using this
theorem tyB : RowTy Tryz.prog 45 5 .u8 := ⟨Tryz.underlying45, 1, by decide, by kernel_rfl⟩
theorem info1 : (Tryz.prog.info? 5).map (·.size) = some 1 := by kernel_rfl
theorem mk (M : Nat) (x : Int) (hx : x = M) (hn : M ≤ 1000000000000) : ∀ W : World, (Instr.makeSlice 45 (.int .i64 x) (.int .i64 x)).run Tryz.prog W = .ok (.slice (some ⟨W.heap.size, 0, none⟩) M M) (W.alloc (.cells (Array.replicate M (.int .u8 0)) 5)) := by
  intro W
  subst hx
  exact mk_run 45 5 (.int .u8 0) 1 Tryz.underlying45 (by kernel_rfl) rfl .i64 .i64 M (by omega) (by omega) W
theorem made_own (M B : Nat) (w : World) (hB : B ≤ w.heap.size) (hM : M ≤ 100000) : OwnI .u8 (w.alloc (.cells (Array.replicate M (.int .u8 0)) 5)) B 5 (.slice (some ⟨w.heap.size, 0, none⟩) M M) (List.replicate M 0) := by
  have h := OwnI.made (B := B) w .u8 (List.replicate M (0 : Int)) 5 (Array.replicate M (.int .u8 0)) (by simp) hB (by simp [maxLen]; omega)
  rwa [List.length_replicate] at h
theorem take_next {a b : List Int} {k : Nat} (hl : a.length = b.length) (hk : k < a.length) (h : a.take k = b.take k) (he : a.getD k 0 = b.getD k 0) : a.take (k + 1) = b.take (k + 1) := by
  rw [List.take_succ_eq_append_getElem hk, List.take_succ_eq_append_getElem (by omega), h]
  rw [List.getD_eq_getElem?_getD, List.getD_eq_getElem?_getD, List.getElem?_eq_getElem hk, List.getElem?_eq_getElem (by omega)] at he
  simp only [Option.getD_some] at he
  rw [he]
theorem ne_of_cell {a b : List Int} {k : Nat} (he : ¬ a.getD k 0 = b.getD k 0) : decide (a = b) = false := by
  rw [decide_eq_false_iff_not]
  rintro rfl
  exact he rfl
theorem conv_str (P : Program) (w : World) (src e : TypeId) (hs : P.underlying src = some (.slice e)) (he : P.underlying e = some (.int .u8)) (A : Option Addr) (n c : Nat) (l : List Int) (hn : l.length = n) (h : Rd .u8 w A l) (dst : TypeId) (hd : P.underlying dst = some .string) :
    (convert src dst (.slice A n c)).run P w = .ok (.string (strOfNums l)) w := by
  cases A with
  | none =>
    obtain rfl := h.empty rfl
    exact run_convert_bytes_nil w src e hs he n c dst hd
  | some ad =>
    have hl : (loadCells ad n).run P w = .ok (l.map (Value.int .u8)).toArray w := by
      have := run_loadCells_list (P := P) w ad (l.map (Value.int .u8)) (fun j v hj => by
        have hjl : j < l.length := by
          rcases Nat.lt_or_ge j l.length with h | h
          · exact h
          · simp [List.getElem?_eq_none (show (l.map (Value.int .u8)).length ≤ j by simpa using h)] at hj
        obtain ⟨ad', e', _, hc⟩ := h.cell hjl
        cases e'
        rw [hc]
        simp [List.getElem?_eq_getElem hjl] at hj
        subst hj
        simp [List.getD, List.getElem?_eq_getElem hjl])
      simpa [hn] using this
    rw [run_convert_bytes_string w src dst e _ n c hs he hd, run_bytesToString w _ n c l hl, foldl_push_bytes]
    simp [strOfNums, ByteArray.empty, ByteArray.emptyWithCapacity]
    rfl
theorem str_inj : ∀ (l m : List Int), Bts l → Bts m → strOfNums l = strOfNums m → l = m := by
  intro l m hl hm h
  have h1 := congrArg (fun s : ByteArray => s.data.toList) h
  simp only [strOfNums_data] at h1
  clear h
  induction l generalizing m with
  | nil => cases m with
    | nil => rfl
    | cons y m => simp at h1
  | cons x l ih => cases m with
    | nil => simp at h1
    | cons y m =>
      simp only [List.map_cons, List.cons.injEq] at h1
      have hx := hl x (List.mem_cons_self)
      have hy := hm y (List.mem_cons_self)
      have h2 := congrArg UInt8.toNat h1.1
      rw [UInt8.toNat_ofNat', UInt8.toNat_ofNat'] at h2
      rw [ih m (fun z hz => hl z (List.mem_cons_of_mem _ hz)) (fun z hz => hm z (List.mem_cons_of_mem _ hz)) h1.2]
      congr 1
      omega
set_option maxRecDepth 100000 in
theorem sameBytes (A B : Option Addr) (ca cb : Nat) (a b : List Int) (w : World) (hla : a.length ≤ 1000000000) (hlb : b.length ≤ 1000000000) (ha : Rd .u8 w A a) (hb : Rd .u8 w B b) :
    Calls Tryz.prog 18 #[.slice A a.length ca, .slice B b.length cb] w fun e w' => e = .returned (.bool (decide (a = b))) ∧ Below w.heap.size w w' := by
  have HA := Lib.hid ha
  have HB := Lib.hid hb
  clear ha hb
  by_cases hlen : a.length = b.length
  · have hz : ((a.length : Int) == b.length) = true := by rw [beq_iff_eq]; omega
    have HL := Lib.hid hlen
    obtain ⟨n, hn⟩ : ∃ n, n = a.length := ⟨_, rfl⟩
    have HN := Lib.hid hn
    rw [← hlen, ← hn]
    rw [← hn] at hla
    clear hlen hlb hz hn
    go_enter Tryz.func18, Tryz.ntmps18
    go_wp2
    go_loopw [5] (fun i wr => ∃ k : Nat, k ≤ n ∧ i = .int .i64 k ∧ Hid (a.take k = b.take k) ∧ Hid (Below w.heap.size w wr)) (fun i _ => n - (intOf i).toNat)
    case atStart => exact ⟨0, by omega, rfl, by simp [Hid], Below.refl _ _⟩
    case round =>
      obtain ⟨k, hk, rfl, hat, hbd⟩ := hrel
      by_cases hlt : k < n
      · obtain ⟨x, rfl, hxb, hxc⟩ := (HA.out.below hbd.out).cell (j := k) (by rw [← HN.out]; exact hlt)
        obtain ⟨y, rfl, hyb, hyc⟩ := (HB.out.below hbd.out).cell (j := k) (by rw [← HL.out, ← HN.out]; exact hlt)
        by_cases he : a.getD k 0 = b.getD k 0
        · have HE := Lib.hid he
          rw [← he] at hyc
          clear he
          obtain ⟨z, hz⟩ : ∃ z, z = a.getD k 0 := ⟨_, rfl⟩
          rw [← hz] at hxc hyc
          clear hz
          go_wp2
          refine wp_region_sl [.one (0, true, some 17), .one (1, true, some 18), .one (2, true, some 19), .one (3, true, some 20), .one (4, true, some 21), .one (5, true, some 22), .one (6, true, some 23), .one (7, true, some 24), .one (8, true, some 25)]
                [.one ⟨true, some 17, (Go.Op.move (Go.Operand.tmp 0)), 45, none⟩,
                .one ⟨true, some 18, (Go.Op.move (Go.Operand.tmp 5)), 3, none⟩,
                .one ⟨true, some 19, (Go.Op.indexAddr 45 (Go.Operand.tmp 17) (Go.Operand.tmp 18)), 0, none⟩,
                .one ⟨true, some 20, (Go.Op.load 5 (Go.Operand.tmp 19)), 5, none⟩,
                .one ⟨true, some 21, (Go.Op.move (Go.Operand.tmp 1)), 45, none⟩,
                .one ⟨true, some 22, (Go.Op.move (Go.Operand.tmp 5)), 3, none⟩,
                .one ⟨true, some 23, (Go.Op.indexAddr 45 (Go.Operand.tmp 21) (Go.Operand.tmp 22)), 0, none⟩,
                .one ⟨true, some 24, (Go.Op.load 5 (Go.Operand.tmp 23)), 5, none⟩,
                .one ⟨true, some 25, (Go.Op.binOp Go.BinOp.neq 5 (Go.Operand.tmp 20) (Go.Operand.tmp 24) 5), 4, none⟩]
                (fun w' => w'.cell? (x.add k) = some (.int .u8 z) ∧ w'.cell? (y.add k) = some (.int .u8 z)) rfl (by kernel_rfl) (by kernel_rfl) ?_ ?_
          · exact ⟨hxc, hyc⟩
          (repeat (first | ((with_reducible refine sq (v := ?_) (a' := ?_) ?_ ?_ ?_); rotate_left 2; (focus (intro w' hS; go_simp; (first | done | with_reducible rfl | rfl))); (simp only [Act.put, List.setIfInBounds_toArray, List.set_cons_zero, List.set_cons_succ]; rfl)) | ((with_reducible refine sn (a' := ?_) ?_ ?_ ?_); rotate_left; (focus rfl); (simp only [Act.put, List.setIfInBounds_toArray, List.set_cons_zero, List.set_cons_succ]; rfl)) | ((with_reducible refine sf trivial (a' := ?_) ?_ ?_ ?_); rotate_left; (focus rfl); (simp only [Act.put, List.setIfInBounds_toArray, List.set_cons_zero, List.set_cons_succ]; rfl)) | ((with_reducible refine sqg (v := ?_) (a' := ?_) ?_ ?_ ?_ ?_); rotate_left 2; (focus rfl); (focus (intro w' hS; go_simp; (first | done | with_reducible rfl | rfl))); (simp only [Act.put, List.setIfInBounds_toArray, List.set_cons_zero, List.set_cons_succ]; rfl)))); (repeat ((go_bits; (first | ((with_reducible refine sq (v := ?_) (a' := ?_) ?_ ?_ ?_); rotate_left 2; (focus (intro w' hS; go_simp; (first | done | with_reducible rfl | rfl))); (simp only [Act.put, List.setIfInBounds_toArray, List.set_cons_zero, List.set_cons_succ]; rfl)) | ((with_reducible refine sn (a' := ?_) ?_ ?_ ?_); rotate_left; (focus rfl); (simp only [Act.put, List.setIfInBounds_toArray, List.set_cons_zero, List.set_cons_succ]; rfl)) | ((with_reducible refine sf trivial (a' := ?_) ?_ ?_ ?_); rotate_left; (focus rfl); (simp only [Act.put, List.setIfInBounds_toArray, List.set_cons_zero, List.set_cons_succ]; rfl)) | ((with_reducible refine sqg (v := ?_) (a' := ?_) ?_ ?_ ?_ ?_); rotate_left 2; (focus rfl); (focus (intro w' hS; go_simp; (first | done | with_reducible rfl | rfl))); (simp only [Act.put, List.setIfInBounds_toArray, List.set_cons_zero, List.set_cons_succ]; rfl)))); (repeat (first | ((with_reducible refine sq (v := ?_) (a' := ?_) ?_ ?_ ?_); rotate_left 2; (focus (intro w' hS; go_simp; (first | done | with_reducible rfl | rfl))); (simp only [Act.put, List.setIfInBounds_toArray, List.set_cons_zero, List.set_cons_succ]; rfl)) | ((with_reducible refine sn (a' := ?_) ?_ ?_ ?_); rotate_left; (focus rfl); (simp only [Act.put, List.setIfInBounds_toArray, List.set_cons_zero, List.set_cons_succ]; rfl)) | ((with_reducible refine sf trivial (a' := ?_) ?_ ?_ ?_); rotate_left; (focus rfl); (simp only [Act.put, List.setIfInBounds_toArray, List.set_cons_zero, List.set_cons_succ]; rfl)) | ((with_reducible refine sqg (v := ?_) (a' := ?_) ?_ ?_ ?_ ?_); rotate_left 2; (focus rfl); (focus (intro w' hS; go_simp; (first | done | with_reducible rfl | rfl))); (simp only [Act.put, List.setIfInBounds_toArray, List.set_cons_zero, List.set_cons_succ]; rfl)))))); (try go_bits)
          refine sl_end ?_
          go_wp2
          go_roundw
          case rel => exact ⟨k + 1, by omega, rfl, take_next HL.out (by rw [← HN.out]; exact hlt) hat.out HE.out, hbd.out.drew⟩
          case measure => simp [intOf]; omega
        · have HE := Lib.hid he
          obtain ⟨z, hz⟩ : ∃ z, z = a.getD k 0 := ⟨_, rfl⟩
          obtain ⟨z2, hz2⟩ : ∃ z, z = b.getD k 0 := ⟨_, rfl⟩
          rw [← hz, ← hz2] at he
          rw [← hz] at hxc
          rw [← hz2] at hyc
          clear hz hz2
          have hne : (z == z2) = false := by rw [beq_eq_false_iff_ne]; exact he
          clear he
          go_wp2
          refine wp_region_sl [.one (0, true, some 17), .one (1, true, some 18), .one (2, true, some 19), .one (3, true, some 20), .one (4, true, some 21), .one (5, true, some 22), .one (6, true, some 23), .one (7, true, some 24), .one (8, true, some 25)]
                [.one ⟨true, some 17, (Go.Op.move (Go.Operand.tmp 0)), 45, none⟩,
                .one ⟨true, some 18, (Go.Op.move (Go.Operand.tmp 5)), 3, none⟩,
                .one ⟨true, some 19, (Go.Op.indexAddr 45 (Go.Operand.tmp 17) (Go.Operand.tmp 18)), 0, none⟩,
                .one ⟨true, some 20, (Go.Op.load 5 (Go.Operand.tmp 19)), 5, none⟩,
                .one ⟨true, some 21, (Go.Op.move (Go.Operand.tmp 1)), 45, none⟩,
                .one ⟨true, some 22, (Go.Op.move (Go.Operand.tmp 5)), 3, none⟩,
                .one ⟨true, some 23, (Go.Op.indexAddr 45 (Go.Operand.tmp 21) (Go.Operand.tmp 22)), 0, none⟩,
                .one ⟨true, some 24, (Go.Op.load 5 (Go.Operand.tmp 23)), 5, none⟩,
                .one ⟨true, some 25, (Go.Op.binOp Go.BinOp.neq 5 (Go.Operand.tmp 20) (Go.Operand.tmp 24) 5), 4, none⟩]
                (fun w' => w'.cell? (x.add k) = some (.int .u8 z) ∧ w'.cell? (y.add k) = some (.int .u8 z2)) rfl (by kernel_rfl) (by kernel_rfl) ?_ ?_
          · exact ⟨hxc, hyc⟩
          (repeat (first | ((with_reducible refine sq (v := ?_) (a' := ?_) ?_ ?_ ?_); rotate_left 2; (focus (intro w' hS; go_simp; (first | done | with_reducible rfl | rfl))); (simp only [Act.put, List.setIfInBounds_toArray, List.set_cons_zero, List.set_cons_succ]; rfl)) | ((with_reducible refine sn (a' := ?_) ?_ ?_ ?_); rotate_left; (focus rfl); (simp only [Act.put, List.setIfInBounds_toArray, List.set_cons_zero, List.set_cons_succ]; rfl)) | ((with_reducible refine sf trivial (a' := ?_) ?_ ?_ ?_); rotate_left; (focus rfl); (simp only [Act.put, List.setIfInBounds_toArray, List.set_cons_zero, List.set_cons_succ]; rfl)) | ((with_reducible refine sqg (v := ?_) (a' := ?_) ?_ ?_ ?_ ?_); rotate_left 2; (focus rfl); (focus (intro w' hS; go_simp; (first | done | with_reducible rfl | rfl))); (simp only [Act.put, List.setIfInBounds_toArray, List.set_cons_zero, List.set_cons_succ]; rfl)))); (repeat ((go_bits; (first | ((with_reducible refine sq (v := ?_) (a' := ?_) ?_ ?_ ?_); rotate_left 2; (focus (intro w' hS; go_simp; (first | done | with_reducible rfl | rfl))); (simp only [Act.put, List.setIfInBounds_toArray, List.set_cons_zero, List.set_cons_succ]; rfl)) | ((with_reducible refine sn (a' := ?_) ?_ ?_ ?_); rotate_left; (focus rfl); (simp only [Act.put, List.setIfInBounds_toArray, List.set_cons_zero, List.set_cons_succ]; rfl)) | ((with_reducible refine sf trivial (a' := ?_) ?_ ?_ ?_); rotate_left; (focus rfl); (simp only [Act.put, List.setIfInBounds_toArray, List.set_cons_zero, List.set_cons_succ]; rfl)) | ((with_reducible refine sqg (v := ?_) (a' := ?_) ?_ ?_ ?_ ?_); rotate_left 2; (focus rfl); (focus (intro w' hS; go_simp; (first | done | with_reducible rfl | rfl))); (simp only [Act.put, List.setIfInBounds_toArray, List.set_cons_zero, List.set_cons_succ]; rfl)))); (repeat (first | ((with_reducible refine sq (v := ?_) (a' := ?_) ?_ ?_ ?_); rotate_left 2; (focus (intro w' hS; go_simp; (first | done | with_reducible rfl | rfl))); (simp only [Act.put, List.setIfInBounds_toArray, List.set_cons_zero, List.set_cons_succ]; rfl)) | ((with_reducible refine sn (a' := ?_) ?_ ?_ ?_); rotate_left; (focus rfl); (simp only [Act.put, List.setIfInBounds_toArray, List.set_cons_zero, List.set_cons_succ]; rfl)) | ((with_reducible refine sf trivial (a' := ?_) ?_ ?_ ?_); rotate_left; (focus rfl); (simp only [Act.put, List.setIfInBounds_toArray, List.set_cons_zero, List.set_cons_succ]; rfl)) | ((with_reducible refine sqg (v := ?_) (a' := ?_) ?_ ?_ ?_ ?_); rotate_left 2; (focus rfl); (focus (intro w' hS; go_simp; (first | done | with_reducible rfl | rfl))); (simp only [Act.put, List.setIfInBounds_toArray, List.set_cons_zero, List.set_cons_succ]; rfl)))))); (try go_bits)
          refine sl_end ?_
          go_wp2
          go_ret
          exact ⟨by rw [ne_of_cell HE.out]; rfl, hbd.out.drew⟩
      · obtain rfl : k = n := by omega
        go_wp2
        go_ret
        have e : a = b := by
          have h := hat.out
          rw [HN.out, List.take_length, HL.out, List.take_length] at h
          exact h
        exact ⟨by rw [decide_eq_true e]; rfl, hbd.out⟩
  · have hz : ((a.length : Int) == b.length) = false := by rw [beq_eq_false_iff_ne]; omega
    have e : decide (a = b) = false := by rw [decide_eq_false_iff_not]; rintro rfl; exact hlen rfl
    rw [e]
    go_enter Tryz.func18, Tryz.ntmps18
    go_wp2
    go_ret
    exact ⟨rfl, Below.refl _ _⟩
theorem sameBytes_m (A B : Option Addr) (n m ca cb : Nat) (a b : List Int) (w : World) (hn : a.length = n) (hm : b.length = m) (hla : n ≤ 1000000000) (hlb : m ≤ 1000000000) (ha : Rd .u8 w A a) (hb : Rd .u8 w B b) :
    Calls Tryz.prog 18 #[.slice A n ca, .slice B m cb] w fun e w' => e = .returned (.bool (decide (a = b))) ∧ Below w.heap.size w w' := by
  subst hn hm
  exact sameBytes A B ca cb a b w hla hlb ha hb
set_option maxRecDepth 100000 in
theorem equal (A B : Option Addr) (ca cb : Nat) (a b : List Int) (w : World) (hla : a.length ≤ 1000000000) (hlb : b.length ≤ 1000000000) (ha : Rd .u8 w A a) (hb : Rd .u8 w B b) :
    Calls Tryz.prog 248 #[.slice A a.length ca, .slice B b.length cb] w fun e w' => e = .returned (.bool (decide (a = b))) ∧ Below w.heap.size w w' := by
  have HA := Lib.hid ha
  have HB := Lib.hid hb
  clear ha hb
  by_cases hlen : a.length = b.length
  · have hz : ((a.length : Int) == b.length) = true := by rw [beq_iff_eq]; omega
    have HL := Lib.hid hlen
    obtain ⟨n, hn⟩ : ∃ n, n = a.length := ⟨_, rfl⟩
    have HN := Lib.hid hn
    rw [← hlen, ← hn]
    rw [← hn] at hla
    clear hlen hlb hz hn
    go_enter Tryz.func248, Tryz.ntmps248
    go_wp2
    go_loopw [13] (fun i wr => ∃ k : Nat, k ≤ n ∧ i = .int .i64 k ∧ Hid (a.take k = b.take k) ∧ Hid (Below w.heap.size w wr)) (fun i _ => n - (intOf i).toNat)
    case atStart => exact ⟨0, by omega, rfl, by simp [Hid], Below.refl _ _⟩
    case round =>
      obtain ⟨k, hk, rfl, hat, hbd⟩ := hrel
      by_cases hlt : k < n
      · obtain ⟨x, rfl, hxb, hxc⟩ := (HA.out.below hbd.out).cell (j := k) (by rw [← HN.out]; exact hlt)
        obtain ⟨y, rfl, hyb, hyc⟩ := (HB.out.below hbd.out).cell (j := k) (by rw [← HL.out, ← HN.out]; exact hlt)
        by_cases he : a.getD k 0 = b.getD k 0
        · have HE := Lib.hid he
          rw [← he] at hyc
          clear he
          obtain ⟨z, hz⟩ : ∃ z, z = a.getD k 0 := ⟨_, rfl⟩
          rw [← hz] at hxc hyc
          clear hz
          go_wp2
          refine wp_region_sl [.one (0, true, some 16), .one (1, true, some 17), .one (2, true, some 18), .one (3, true, some 19), .one (4, true, some 20), .one (5, true, some 21), .one (6, true, some 22), .one (7, true, some 23), .one (8, true, some 24)]
                [.one ⟨true, some 16, (Go.Op.move (Go.Operand.tmp 0)), 45, none⟩,
                .one ⟨true, some 17, (Go.Op.move (Go.Operand.tmp 5)), 3, none⟩,
                .one ⟨true, some 18, (Go.Op.indexAddr 45 (Go.Operand.tmp 16) (Go.Operand.tmp 17)), 0, none⟩,
                .one ⟨true, some 19, (Go.Op.load 5 (Go.Operand.tmp 18)), 5, none⟩,
                .one ⟨true, some 20, (Go.Op.move (Go.Operand.tmp 1)), 45, none⟩,
                .one ⟨true, some 21, (Go.Op.move (Go.Operand.tmp 5)), 3, none⟩,
                .one ⟨true, some 22, (Go.Op.indexAddr 45 (Go.Operand.tmp 20) (Go.Operand.tmp 21)), 0, none⟩,
                .one ⟨true, some 23, (Go.Op.load 5 (Go.Operand.tmp 22)), 5, none⟩,
                .one ⟨true, some 24, (Go.Op.binOp Go.BinOp.neq 5 (Go.Operand.tmp 19) (Go.Operand.tmp 23) 5), 4, none⟩]
                (fun w' => w'.cell? (x.add k) = some (.int .u8 z) ∧ w'.cell? (y.add k) = some (.int .u8 z)) rfl (by kernel_rfl) (by kernel_rfl) ?_ ?_
          · exact ⟨hxc, hyc⟩
          (repeat (first | ((with_reducible refine sq (v := ?_) (a' := ?_) ?_ ?_ ?_); rotate_left 2; (focus (intro w' hS; go_simp; (first | done | with_reducible rfl | rfl))); (simp only [Act.put, List.setIfInBounds_toArray, List.set_cons_zero, List.set_cons_succ]; rfl)) | ((with_reducible refine sn (a' := ?_) ?_ ?_ ?_); rotate_left; (focus rfl); (simp only [Act.put, List.setIfInBounds_toArray, List.set_cons_zero, List.set_cons_succ]; rfl)) | ((with_reducible refine sf trivial (a' := ?_) ?_ ?_ ?_); rotate_left; (focus rfl); (simp only [Act.put, List.setIfInBounds_toArray, List.set_cons_zero, List.set_cons_succ]; rfl)) | ((with_reducible refine sqg (v := ?_) (a' := ?_) ?_ ?_ ?_ ?_); rotate_left 2; (focus rfl); (focus (intro w' hS; go_simp; (first | done | with_reducible rfl | rfl))); (simp only [Act.put, List.setIfInBounds_toArray, List.set_cons_zero, List.set_cons_succ]; rfl)))); (repeat ((go_bits; (first | ((with_reducible refine sq (v := ?_) (a' := ?_) ?_ ?_ ?_); rotate_left 2; (focus (intro w' hS; go_simp; (first | done | with_reducible rfl | rfl))); (simp only [Act.put, List.setIfInBounds_toArray, List.set_cons_zero, List.set_cons_succ]; rfl)) | ((with_reducible refine sn (a' := ?_) ?_ ?_ ?_); rotate_left; (focus rfl); (simp only [Act.put, List.setIfInBounds_toArray, List.set_cons_zero, List.set_cons_succ]; rfl)) | ((with_reducible refine sf trivial (a' := ?_) ?_ ?_ ?_); rotate_left; (focus rfl); (simp only [Act.put, List.setIfInBounds_toArray, List.set_cons_zero, List.set_cons_succ]; rfl)) | ((with_reducible refine sqg (v := ?_) (a' := ?_) ?_ ?_ ?_ ?_); rotate_left 2; (focus rfl); (focus (intro w' hS; go_simp; (first | done | with_reducible rfl | rfl))); (simp only [Act.put, List.setIfInBounds_toArray, List.set_cons_zero, List.set_cons_succ]; rfl)))); (repeat (first | ((with_reducible refine sq (v := ?_) (a' := ?_) ?_ ?_ ?_); rotate_left 2; (focus (intro w' hS; go_simp; (first | done | with_reducible rfl | rfl))); (simp only [Act.put, List.setIfInBounds_toArray, List.set_cons_zero, List.set_cons_succ]; rfl)) | ((with_reducible refine sn (a' := ?_) ?_ ?_ ?_); rotate_left; (focus rfl); (simp only [Act.put, List.setIfInBounds_toArray, List.set_cons_zero, List.set_cons_succ]; rfl)) | ((with_reducible refine sf trivial (a' := ?_) ?_ ?_ ?_); rotate_left; (focus rfl); (simp only [Act.put, List.setIfInBounds_toArray, List.set_cons_zero, List.set_cons_succ]; rfl)) | ((with_reducible refine sqg (v := ?_) (a' := ?_) ?_ ?_ ?_ ?_); rotate_left 2; (focus rfl); (focus (intro w' hS; go_simp; (first | done | with_reducible rfl | rfl))); (simp only [Act.put, List.setIfInBounds_toArray, List.set_cons_zero, List.set_cons_succ]; rfl)))))); (try go_bits)
          refine sl_end ?_
          go_wp2
          go_roundw
          case rel => exact ⟨k + 1, by omega, rfl, take_next HL.out (by rw [← HN.out]; exact hlt) hat.out HE.out, hbd.out.drew⟩
          case measure => simp [intOf]; omega
        · have HE := Lib.hid he
          obtain ⟨z, hz⟩ : ∃ z, z = a.getD k 0 := ⟨_, rfl⟩
          obtain ⟨z2, hz2⟩ : ∃ z, z = b.getD k 0 := ⟨_, rfl⟩
          rw [← hz, ← hz2] at he
          rw [← hz] at hxc
          rw [← hz2] at hyc
          clear hz hz2
          have hne : (z == z2) = false := by rw [beq_eq_false_iff_ne]; exact he
          clear he
          go_wp2
          refine wp_region_sl [.one (0, true, some 16), .one (1, true, some 17), .one (2, true, some 18), .one (3, true, some 19), .one (4, true, some 20), .one (5, true, some 21), .one (6, true, some 22), .one (7, true, some 23), .one (8, true, some 24)]
                [.one ⟨true, some 16, (Go.Op.move (Go.Operand.tmp 0)), 45, none⟩,
                .one ⟨true, some 17, (Go.Op.move (Go.Operand.tmp 5)), 3, none⟩,
                .one ⟨true, some 18, (Go.Op.indexAddr 45 (Go.Operand.tmp 16) (Go.Operand.tmp 17)), 0, none⟩,
                .one ⟨true, some 19, (Go.Op.load 5 (Go.Operand.tmp 18)), 5, none⟩,
                .one ⟨true, some 20, (Go.Op.move (Go.Operand.tmp 1)), 45, none⟩,
                .one ⟨true, some 21, (Go.Op.move (Go.Operand.tmp 5)), 3, none⟩,
                .one ⟨true, some 22, (Go.Op.indexAddr 45 (Go.Operand.tmp 20) (Go.Operand.tmp 21)), 0, none⟩,
                .one ⟨true, some 23, (Go.Op.load 5 (Go.Operand.tmp 22)), 5, none⟩,
                .one ⟨true, some 24, (Go.Op.binOp Go.BinOp.neq 5 (Go.Operand.tmp 19) (Go.Operand.tmp 23) 5), 4, none⟩]
                (fun w' => w'.cell? (x.add k) = some (.int .u8 z) ∧ w'.cell? (y.add k) = some (.int .u8 z2)) rfl (by kernel_rfl) (by kernel_rfl) ?_ ?_
          · exact ⟨hxc, hyc⟩
          (repeat (first | ((with_reducible refine sq (v := ?_) (a' := ?_) ?_ ?_ ?_); rotate_left 2; (focus (intro w' hS; go_simp; (first | done | with_reducible rfl | rfl))); (simp only [Act.put, List.setIfInBounds_toArray, List.set_cons_zero, List.set_cons_succ]; rfl)) | ((with_reducible refine sn (a' := ?_) ?_ ?_ ?_); rotate_left; (focus rfl); (simp only [Act.put, List.setIfInBounds_toArray, List.set_cons_zero, List.set_cons_succ]; rfl)) | ((with_reducible refine sf trivial (a' := ?_) ?_ ?_ ?_); rotate_left; (focus rfl); (simp only [Act.put, List.setIfInBounds_toArray, List.set_cons_zero, List.set_cons_succ]; rfl)) | ((with_reducible refine sqg (v := ?_) (a' := ?_) ?_ ?_ ?_ ?_); rotate_left 2; (focus rfl); (focus (intro w' hS; go_simp; (first | done | with_reducible rfl | rfl))); (simp only [Act.put, List.setIfInBounds_toArray, List.set_cons_zero, List.set_cons_succ]; rfl)))); (repeat ((go_bits; (first | ((with_reducible refine sq (v := ?_) (a' := ?_) ?_ ?_ ?_); rotate_left 2; (focus (intro w' hS; go_simp; (first | done | with_reducible rfl | rfl))); (simp only [Act.put, List.setIfInBounds_toArray, List.set_cons_zero, List.set_cons_succ]; rfl)) | ((with_reducible refine sn (a' := ?_) ?_ ?_ ?_); rotate_left; (focus rfl); (simp only [Act.put, List.setIfInBounds_toArray, List.set_cons_zero, List.set_cons_succ]; rfl)) | ((with_reducible refine sf trivial (a' := ?_) ?_ ?_ ?_); rotate_left; (focus rfl); (simp only [Act.put, List.setIfInBounds_toArray, List.set_cons_zero, List.set_cons_succ]; rfl)) | ((with_reducible refine sqg (v := ?_) (a' := ?_) ?_ ?_ ?_ ?_); rotate_left 2; (focus rfl); (focus (intro w' hS; go_simp; (first | done | with_reducible rfl | rfl))); (simp only [Act.put, List.setIfInBounds_toArray, List.set_cons_zero, List.set_cons_succ]; rfl)))); (repeat (first | ((with_reducible refine sq (v := ?_) (a' := ?_) ?_ ?_ ?_); rotate_left 2; (focus (intro w' hS; go_simp; (first | done | with_reducible rfl | rfl))); (simp only [Act.put, List.setIfInBounds_toArray, List.set_cons_zero, List.set_cons_succ]; rfl)) | ((with_reducible refine sn (a' := ?_) ?_ ?_ ?_); rotate_left; (focus rfl); (simp only [Act.put, List.setIfInBounds_toArray, List.set_cons_zero, List.set_cons_succ]; rfl)) | ((with_reducible refine sf trivial (a' := ?_) ?_ ?_ ?_); rotate_left; (focus rfl); (simp only [Act.put, List.setIfInBounds_toArray, List.set_cons_zero, List.set_cons_succ]; rfl)) | ((with_reducible refine sqg (v := ?_) (a' := ?_) ?_ ?_ ?_ ?_); rotate_left 2; (focus rfl); (focus (intro w' hS; go_simp; (first | done | with_reducible rfl | rfl))); (simp only [Act.put, List.setIfInBounds_toArray, List.set_cons_zero, List.set_cons_succ]; rfl)))))); (try go_bits)
          refine sl_end ?_
          go_wp2
          go_ret
          exact ⟨by rw [ne_of_cell HE.out]; rfl, hbd.out.drew⟩
      · obtain rfl : k = n := by omega
        go_wp2
        go_ret
        have e : a = b := by
          have h := hat.out
          rw [HN.out, List.take_length, HL.out, List.take_length] at h
          exact h
        exact ⟨by rw [decide_eq_true e]; rfl, hbd.out⟩
  · have hz : ((a.length : Int) == b.length) = false := by rw [beq_eq_false_iff_ne]; omega
    have e : decide (a = b) = false := by rw [decide_eq_false_iff_not]; rintro rfl; exact hlen rfl
    rw [e]
    go_enter Tryz.func248, Tryz.ntmps248
    go_wp2
    go_ret
    exact ⟨rfl, Below.refl _ _⟩
theorem equal_m (A B : Option Addr) (n m ca cb : Nat) (a b : List Int) (w : World) (hn : a.length = n) (hm : b.length = m) (hla : n ≤ 1000000000) (hlb : m ≤ 1000000000) (ha : Rd .u8 w A a) (hb : Rd .u8 w B b) :
    Calls Tryz.prog 248 #[.slice A n ca, .slice B m cb] w fun e w' => e = .returned (.bool (decide (a = b))) ∧ Below w.heap.size w w' := by
  subst hn hm
  exact equal A B ca cb a b w hla hlb ha hb
theorem clone (A : Option Addr) (n c : Nat) (l : List Int) (w : World) (hn : l.length = n) (hl : n ≤ 1000000000) (hA : A ≠ none ∨ n = 0 ∧ c = 0) (hr : Rd .u8 w A l) :
    Calls Tryz.prog 80 #[.slice A n c] w fun e w' => ∃ v, e = .returned v ∧ OwnI .u8 w' w.heap.size 5 v l ∧ Below w.heap.size w w' := by
  have hq : ∀ (W : World) (a : Option Addr) (n c n' c' : Nat), (binOp .eql 45 (.slice a n c) (.slice none n' c')).run Tryz.prog W = .ok (.bool a.isNone) W := fun W a n c n' c' => Lib.run_eql_slice_nil W _ _ a n c n' c' Tryz.underlying45
  cases A with
  | none =>
    obtain rfl := hr.empty rfl
    obtain ⟨rfl, rfl⟩ : n = 0 ∧ c = 0 := hA.elim (fun h => absurd rfl h) id
    go_enter Tryz.func80, Tryz.ntmps80
    go_wp2
    go_ret
    exact ⟨_, rfl, OwnI.nil _ _ _ _, Below.refl _ _⟩
  | some ad =>
    have HR := Lib.hid hr
    clear hr
    go_enter Tryz.func80, Tryz.ntmps80
    have H0 := Lib.hid (show Below w.heap.size w (w.alloc (.cells #[] 5)) ∧ OwnI .u8 (w.alloc (.cells #[] 5)) w.heap.size 5 (.slice (some ⟨w.heap.size, 0, none⟩) 0 0) [] from
      ⟨(Below.refl _ _).alloc (Nat.le_refl _) _, OwnI.made w .u8 [] 5 #[] rfl (Nat.le_refl _) (Nat.zero_le _)⟩)
    go_wp2_with (at_builtin; refine ap_list rfl tyB H0.out.1 H0.out.2 (HR.out.below H0.out.1) (fun e => by cases e) (by simp; omega) (.tmp 5) (.tmp 6) n c rfl rfl rfl hn ?_; intro v2 w2 own2 bd2 _ _; have H2 := Lib.hid (And.intro own2 bd2); clear own2 bd2)
    go_ret
    refine ⟨_, rfl, ?_, H2.out.2⟩
    have h := H2.out.1
    rwa [List.nil_append] at h
end Go.Proofs.YticnjkdaccacaaaGreatDoor.Bytes
end
section
namespace Go.Proofs.YticnjkdaccacaaaGreatDoor.Disk
open Go.RowKit Base _root_.Go.Proofs.YticnjkdaccacaaaGreatDoor.Own OwnV Bytes
def Pc (p : List Int) : Prop := p.length = 64 ∧ Bts p
def pcs (l : List (List Int)) : List Value := l.flatten.map (Value.int .u8)
def wcs (l : List (Int × List Int)) : List Value := l.flatMap fun x => .int .i64 x.1 :: x.2.map (Value.int .u8)
structure Dk where
  sure : List (List Int)
  seen : List (List Int)
  waits : List (Int × List Int)
structure Dk.ok (D : Dk) : Prop where
  same : D.sure.length = D.seen.length
  pos : 1 ≤ D.seen.length
  most : D.seen.length ≤ 4096
  sure : ∀ p ∈ D.sure, Pc p
  seen : ∀ p ∈ D.seen, Pc p
  waits : ∀ x ∈ D.waits, Pc x.2 ∧ 0 ≤ x.1 ∧ x.1 < D.seen.length
structure Lies (w : World) (B d : Nat) (S E W : Value) (D : Dk) : Prop where
  cells : w.heap[d]? = some (.cells #[S, E, W] 142 (0, 0))
  base : B ≤ d
  sure : RowV w B 148 64 S D.sure.length (pcs D.sure)
  seen : RowV w B 148 64 E D.seen.length (pcs D.seen)
  waits : RowV w B 150 65 W D.waits.length (wcs D.waits)
  s0 : S.ownBlock ≠ some d
  e0 : E.ownBlock ≠ some d
  w0 : W.ownBlock ≠ some d
  se : S.ownBlock ≠ E.ownBlock
  sw : Sep W S
  ew : Sep W E
  ok : D.ok
def blocks (d : Nat) (S E W : Value) (k : Nat) : Prop := k = d ∨ some k = S.ownBlock ∨ some k = E.ownBlock ∨ some k = W.ownBlock
def Disk (w : World) (B d : Nat) (F : Nat → Prop) (D : Dk) : Prop := ∃ S E W, Lies w B d S E W D ∧ ∀ k, F k ↔ blocks d S E W k
section
variable {w w' : World} {B d : Nat} {S E W : Value} {D : Dk} {F G : Nat → Prop}
theorem Lies.kept (h : Lies w B d S E W D) (hc : Chg G w w') (hG : ∀ k, blocks d S E W k → ¬ G k) : Lies w' B d S E W D :=
  { h with
    cells := by rw [hc.block d (Array.getElem?_eq_some_iff.1 h.cells).1 (hG d (.inl rfl))]; exact h.cells
    sure := h.sure.kept hc fun g hg => hG g (.inr (.inl hg.symm))
    seen := h.seen.kept hc fun g hg => hG g (.inr (.inr (.inl hg.symm)))
    waits := h.waits.kept hc fun g hg => hG g (.inr (.inr (.inr hg.symm))) }
theorem Disk.kept (h : Disk w B d F D) (hc : Chg G w w') (hG : ∀ k, F k → ¬ G k) : Disk w' B d F D := by
  obtain ⟨S, E, W, h1, h2⟩ := h
  exact ⟨S, E, W, h1.kept hc fun k hk => hG k ((h2 k).2 hk), h2⟩
theorem Disk.new (h : Disk w B d F D) (hb : Below w.heap.size w w') : Disk w' B d F D := h.kept (Chg.of_new hb) fun _ _ h => h
theorem Disk.lt (h : Disk w B d F D) : ∀ k, F k → B ≤ k ∧ k < w.heap.size := by
  obtain ⟨S, E, W, h1, h2⟩ := h
  intro k hk
  rcases (h2 k).1 hk with rfl | e | e | e
  · exact ⟨h1.base, (Array.getElem?_eq_some_iff.1 h1.cells).1⟩
  · exact h1.sure.lt k e.symm
  · exact h1.seen.lt k e.symm
  · exact h1.waits.lt k e.symm
theorem Disk.ok (h : Disk w B d F D) : D.ok := by obtain ⟨S, E, W, h1, _⟩ := h; exact h1.ok
theorem Disk.lower {B' : Nat} (h : Disk w B d F D) (hB : B' ≤ B) : Disk w B' d F D := by
  obtain ⟨S, E, W, h1, h2⟩ := h
  exact ⟨S, E, W, { h1 with base := Nat.le_trans hB h1.base, sure := h1.sure.lower hB, seen := h1.seen.lower hB, waits := h1.waits.lower hB }, h2⟩
theorem Lies.cell (h : Lies w B d S E W D) : w.cell? ⟨d, 0, none⟩ = some S ∧ w.cell? ⟨d, 1, none⟩ = some E ∧ w.cell? ⟨d, 2, none⟩ = some W := by
  refine ⟨?_, ?_, ?_⟩ <;> (rw [cell_of_row _ _ _ _ _ _ h.cells]; rfl)
end
theorem size {w : World} {B d : Nat} {F : Nat → Prop} {D : Dk} (h : Disk w B d F D) : Calls Tryz.prog 79 #[.pointer (some ⟨d, 0, none⟩)] w fun e w' => e = .returned (.int .i64 D.seen.length) ∧ w' = w := by
  obtain ⟨S, E, W, h1, _⟩ := h
  obtain ⟨A, c, rfl, -, -, -, -⟩ := h1.sure.slice
  have hc := h1.cell.1
  have he := h1.ok.same
  clear h1
  go_enter Tryz.func79, Tryz.ntmps79
  go_wp2
  go_ret
  exact ⟨rfl, rfl⟩
theorem waits {w : World} {B d : Nat} {F : Nat → Prop} {D : Dk} (h : Disk w B d F D) : Calls Tryz.prog 23 #[.pointer (some ⟨d, 0, none⟩)] w fun e w' => e = .returned (.int .i64 D.waits.length) ∧ w' = w := by
  obtain ⟨S, E, W, h1, _⟩ := h
  obtain ⟨A, c, rfl, -, -, -, -⟩ := h1.waits.slice
  have hc := h1.cell.2.2
  clear h1
  go_enter Tryz.func23, Tryz.ntmps23
  go_wp2
  go_ret
  exact ⟨rfl, rfl⟩
def mayOk (n : Nat) (x : Int) : Int := if 0 ≤ x ∧ x < n then 0 else 1
theorem may {w : World} {B d : Nat} {F : Nat → Prop} {D : Dk} (h : Disk w B d F D) (x : Int) : Calls Tryz.prog 78 #[.pointer (some ⟨d, 0, none⟩), .int .i64 x] w fun e w' => e = .returned (.int .i64 (mayOk D.seen.length x)) ∧ w' = w := by
  have H := Lib.hid h
  have hp := h.ok.pos
  clear h
  obtain ⟨n, hn⟩ : ∃ n, n = D.seen.length := ⟨_, rfl⟩
  have hsz : ∀ W, W = w → Calls Tryz.prog 79 #[.pointer (some ⟨d, 0, none⟩)] W fun e w' => e = .returned (.int .i64 n) ∧ w' = w := fun W e => by rw [e, hn]; exact size H.out
  rw [← hn] at hp ⊢
  have hz : ((n : Int) == 0) = false := by rw [beq_eq_false_iff_ne]; omega
  have HS := Lib.hid hsz
  clear hn hsz hp
  by_cases h0 : x < 0
  · have : mayOk n x = 1 := by unfold mayOk; rw [if_neg (by omega)]
    rw [this]
    clear this
    go_enter Tryz.func78, Tryz.ntmps78
    go_wp2_with fail
    refine (HS.out _ rfl).mono ?_
    rintro e w' ⟨rfl, rfl⟩
    go_wp2
    go_ret
    exact ⟨rfl, rfl⟩
  · by_cases h1 : x < n
    · have : mayOk n x = 0 := by unfold mayOk; rw [if_pos (by omega)]
      rw [this]
      clear this
      go_enter Tryz.func78, Tryz.ntmps78
      go_wp2_with fail
      refine (HS.out _ rfl).mono ?_
      rintro e w' ⟨rfl, rfl⟩
      go_wp2_with fail
      refine (HS.out _ rfl).mono ?_
      rintro e w' ⟨rfl, rfl⟩
      go_wp2
      go_ret
      exact ⟨rfl, rfl⟩
    · have : mayOk n x = 1 := by unfold mayOk; rw [if_neg (by omega)]
      rw [this]
      clear this
      go_enter Tryz.func78, Tryz.ntmps78
      go_wp2_with fail
      refine (HS.out _ rfl).mono ?_
      rintro e w' ⟨rfl, rfl⟩
      go_wp2_with fail
      refine (HS.out _ rfl).mono ?_
      rintro e w' ⟨rfl, rfl⟩
      go_wp2
      go_ret
      exact ⟨rfl, rfl⟩
theorem pcs_length {l : List (List Int)} (h : ∀ p ∈ l, Pc p) : (pcs l).length = l.length * 64 := by
  unfold pcs
  rw [List.length_map]
  induction l with
  | nil => rfl
  | cons p l ih =>
    rw [List.flatten_cons, List.length_append, ih (fun q hq => h q (List.mem_cons_of_mem _ hq)), (h p (List.mem_cons_self)).1, List.length_cons]; omega
theorem flat_get : ∀ (l : List (List Int)) (i j : Nat), (∀ p ∈ l, p.length = 64) → i < l.length → j < 64 → l.flatten[i * 64 + j]? = (l.getD i [])[j]? := by
  intro l
  induction l with
  | nil => intro i j _ h; simp at h
  | cons p l ih =>
    intro i j hp hi hj
    have h64 := hp p (List.mem_cons_self)
    rw [List.flatten_cons, List.getElem?_append, h64]
    cases i with
    | zero => rw [if_pos (by omega)]; simp
    | succ i =>
      rw [if_neg (by omega), show (i + 1) * 64 + j - 64 = i * 64 + j by omega, ih i j (fun q hq => hp q (List.mem_cons_of_mem _ hq)) (by simpa using hi) hj]; rfl
theorem piece_rd {w : World} {g : Nat} {l : List (List Int)} (hg : g < w.heap.size) (h : w.rangeAt g 0 (pcs l)) (hp : ∀ p ∈ l, Pc p) {i : Nat} (hi : i < l.length) : Rd .u8 w (some ⟨g, i * 64, none⟩) (l.getD i []) := by
  intro _
  have h64 : (l.getD i []).length = 64 := by rw [List.getD_eq_getElem?_getD, List.getElem?_eq_getElem hi]; exact (hp _ (List.getElem_mem hi)).1
  refine ⟨_, rfl, hg, fun j hj => ?_⟩
  rw [h64] at hj
  have h1 := flat_get l i j (fun p hp' => (hp p hp').1) hi hj
  have h2 := h (i * 64 + j) (.int .u8 ((l.getD i []).getD j 0)) (by
    unfold pcs
    rw [List.getElem?_map, h1, List.getElem?_eq_getElem (by omega), List.getD_eq_getElem?_getD (l := l.getD i []), List.getElem?_eq_getElem (by omega)]; rfl)
  rw [Nat.zero_add] at h2
  have e : (⟨g, i * 64, none⟩ : Addr).add j = ⟨g, i * 64 + j, none⟩ := Addr.add_mid _ _ _
  rw [e]; exact h2
theorem read {w : World} {B d : Nat} {F : Nat → Prop} {D : Dk} (h : Disk w B d F D) (x : Int) :
    Calls Tryz.prog 16 #[.pointer (some ⟨d, 0, none⟩), .int .i64 x] w fun e w' => (∃ v, e = .returned (.tuple #[v, .int .i64 (mayOk D.seen.length x)]) ∧ (mayOk D.seen.length x = 1 → v = .slice none 0 0) ∧ (mayOk D.seen.length x = 0 → OwnI .u8 w' w.heap.size 5 v (D.seen.getD x.toNat []))) ∧ Below w.heap.size w w' := by
  have H := Lib.hid h
  clear h
  by_cases hx : 0 ≤ x ∧ x < D.seen.length
  · have hm : mayOk D.seen.length x = 0 := by unfold mayOk; rw [if_pos hx]
    rw [hm]
    obtain ⟨S, E, W, h1, h2⟩ := H.out
    obtain ⟨A, c, rfl, -, -, hA, hA2⟩ := h1.seen.slice
    cases A with
    | none => have := hA rfl; omega
    | some ad =>
      obtain ⟨g, rfl, hB, hg, hr, -⟩ := hA2 _ rfl
      obtain ⟨i, rfl⟩ : ∃ i : Nat, x = i := ⟨x.toNat, by omega⟩
      have hi : i < D.seen.length := by omega
      have hrd := piece_rd hg hr h1.ok.seen hi
      have h64 : (D.seen.getD i []).length = 64 := by rw [List.getD_eq_getElem?_getD, List.getElem?_eq_getElem hi]; exact (h1.ok.seen _ (List.getElem_mem hi)).1
      have HR := Lib.hid (And.intro hrd h64)
      have hc1 := h1.cell.2.1
      have hmost := h1.ok.most
      clear hrd h64 hr hA hA2 h1 h2
      go_enter Tryz.func16, Tryz.ntmps16
      go_wp2_with fail
      refine (may H.out (i : Int)).mono ?_
      rw [hm]
      clear hm
      rintro e w' ⟨rfl, h⟩
      subst h
      go_wp2_with fail
      refine (clone (some ⟨g, i * 64, none⟩) 64 64 (D.seen.getD i []) w' HR.out.2 (by decide) (.inl (by simp)) HR.out.1).mono ?_
      rintro e w2 ⟨v, rfl, o2, b2⟩
      have H2 := Lib.hid (And.intro o2 b2)
      clear o2 b2 hc1
      go_wp2
      go_ret2
      exact ⟨⟨_, rfl, fun h => absurd h (by decide), fun _ => H2.out.1⟩, H2.out.2⟩
  · have hm : mayOk D.seen.length x = 1 := by unfold mayOk; rw [if_neg hx]
    rw [hm]
    clear hx
    go_enter Tryz.func16, Tryz.ntmps16
    go_wp2_with fail
    refine (may H.out x).mono ?_
    rw [hm]
    clear hm
    rintro e w' ⟨rfl, h⟩
    subst h
    go_wp2
    go_ret2
    exact ⟨⟨_, rfl, fun _ => rfl, fun h => by cases h⟩, Below.refl _ _⟩
def pad (b : List Int) : List Int := b ++ List.replicate (64 - b.length) 0
theorem pad_pc {b : List Int} (h : b.length ≤ 64) (hb : Bts b) : Pc (pad b) := ⟨by unfold pad; simp; omega, hb.append (Bts.zeros _)⟩
theorem pad_splice {b : List Int} (h : b.length ≤ 64) : splice (List.replicate 64 0) 0 b = pad b := by
  unfold splice pad
  rw [List.take_zero, List.nil_append, Nat.zero_add, List.drop_replicate]
def Dk.write (D : Dk) (x : Int) (p : List Int) : Dk := { D with seen := D.seen.set x.toNat p, waits := D.waits ++ [(x, p)] }
theorem Dk.ok.write {D : Dk} (h : D.ok) {x : Int} {p : List Int} (hx : 0 ≤ x ∧ x < D.seen.length) (hp : Pc p) : (D.write x p).ok where
  same := by simp [Dk.write, h.same]
  pos := by simp [Dk.write]; exact h.pos
  most := by simp [Dk.write]; exact h.most
  sure := h.sure
  seen := fun q hq => by
    rcases List.mem_or_eq_of_mem_set hq with h1 | h1
    · exact h.seen q h1
    · subst h1; exact hp
  waits := fun y hy => by
    rcases List.mem_append.1 hy with h1 | h1
    · have := h.waits y h1
      simp [Dk.write]; exact this
    · simp at h1; subst h1; simp [Dk.write]; exact ⟨hp, hx⟩
theorem pcs_set {l : List (List Int)} (h : ∀ p ∈ l, Pc p) {i : Nat} (hi : i < l.length) {q : List Int} (hq : Pc q) : splice (pcs l) (i * 64) (q.map (Value.int .u8)) = pcs (l.set i q) := by
  have hl := pcs_length h
  apply List.ext_getElem?
  intro k
  rw [splice_get _ _ _ (by rw [hl, List.length_map, hq.1]; omega), List.length_map, hq.1]
  have h2 : ∀ p ∈ l.set i q, Pc p := fun p hp => by
    rcases List.mem_or_eq_of_mem_set hp with h1 | h1
    · exact h p h1
    · subst h1; exact hq
  by_cases hk : k < l.length * 64
  · obtain ⟨a, b, rfl, hb⟩ : ∃ a b, k = a * 64 + b ∧ b < 64 := ⟨k / 64, k % 64, by omega, by omega⟩
    unfold pcs
    rw [List.getElem?_map, List.getElem?_map, List.getElem?_map, flat_get _ _ _ (fun p hp => (h2 p hp).1) (by rw [List.length_set]; omega) hb, flat_get _ _ _ (fun p hp => (h p hp).1) (by omega) hb]
    by_cases e : a = i
    · subst e
      rw [if_pos (by omega), show a * 64 + b - a * 64 = b by omega, List.getD_eq_getElem?_getD, List.getElem?_set_self hi]; rfl
    · rw [if_neg (by omega), List.getD_eq_getElem?_getD, List.getD_eq_getElem?_getD, List.getElem?_set_ne (Ne.symm e)]
  · rw [if_neg (by omega), List.getElem?_eq_none (by omega), List.getElem?_eq_none (by rw [pcs_length h2, List.length_set]; omega)]
theorem Dk.ok.set {D : Dk} (h : D.ok) {i : Nat} {p : List Int} (hp : Pc p) : ({ D with seen := D.seen.set i p } : Dk).ok where
  same := by simp [h.same]
  pos := by simp; exact h.pos
  most := by simp; exact h.most
  sure := h.sure
  seen := fun q hq => by
    rcases List.mem_or_eq_of_mem_set hq with h1 | h1
    · exact h.seen q h1
    · subst h1; exact hp
  waits := fun y hy => by simpa using h.waits y hy
theorem Lies.set {w : World} {B d g n c : Nat} {S W : Value} {D : Dk} (h : Lies w B d S (.slice (some ⟨g, 0, none⟩) n c) W D) {i : Nat} {p : List Int} (hi : i < D.seen.length) (hp : Pc p) :
    Lies (w.setCells g (i * 64) (p.map (Value.int .u8))) B d S (.slice (some ⟨g, 0, none⟩) n c) W { D with seen := D.seen.set i p } := by
  have hc := chg_setCells g (p.map (Value.int .u8)) (i * 64) w
  have hn : n = D.seen.length := by
    obtain ⟨A, c', e, -⟩ := h.seen.slice
    injection e
  have h1 := h.seen
  rw [hn] at h1
  have h2 := h1.set (i * 64) (p.map (Value.int .u8)) (by rw [List.length_map, hp.1]; omega)
  rw [pcs_set h.ok.seen hi hp] at h2
  exact { h with
    cells := by rw [hc.block d (Array.getElem?_eq_some_iff.1 h.cells).1 (fun e => h.e0 (by rw [e]; rfl))]; exact h.cells
    sure := h.sure.kept hc fun k hk e => h.se (by rw [hk, e]; rfl)
    seen := by show RowV _ _ _ _ _ (D.seen.set i p).length _; rw [List.length_set, hn]; exact h2
    waits := h.waits.kept hc fun k hk e => h.ew k hk (by rw [e]; rfl)
    ok := h.ok.set hp }
theorem wcs_append (l : List (Int × List Int)) (x : Int) (p : List Int) : wcs (l ++ [(x, p)]) = wcs l ++ (.int .i64 x :: p.map (Value.int .u8)) := by simp [wcs]
def writeCode (n : Nat) (x : Int) (b : List Int) : Int := if mayOk n x = 1 ∨ 64 < b.length then 1 else 0
theorem built_fill (L : List (Nat × Value)) : Tryz.prog.built 150 L = Instr.fill (([(0, 1), (1, 64)] : List (Nat × Nat)).toArray[·]?) (.int .i64 0 :: List.replicate 64 (.int .u8 0)).toArray L := by kernel_rfl
theorem built_write (x : Int) (Pv : List Value) (h : Pv.length = 64) : Tryz.prog.built 150 [(0, .int .i64 x), (1, .agg Pv.toArray)] = some (Value.int .i64 x :: Pv).toArray := by
  rw [built_fill, fill_step _ _ 0 0 1 _ _ rfl rfl (by simp), fill_step _ _ 1 1 64 _ _ rfl (by simpa [Value.cells] using h) (by simp [splice, Value.cells]), Instr.fill]
  congr 1
  simp [splice, Value.cells]
  omega
end Go.Proofs.YticnjkdaccacaaaGreatDoor.Disk
end
section
namespace Go.Proofs.YticnjkdaccacaaaGreatDoor.Disk
open Go.RowKit Base _root_.Go.Proofs.YticnjkdaccacaaaGreatDoor.Own OwnV Bytes
def Dk.sync (D : Dk) : Dk := ⟨D.seen, D.seen, []⟩
theorem Dk.ok.sync {D : Dk} (h : D.ok) : D.sync.ok := ⟨rfl, h.pos, h.most, h.seen, h.seen, fun x hx => by simp [Dk.sync] at hx⟩
theorem pcs_one {l : List (List Int)} : ∀ v ∈ pcs l, v.oneCell' = true := fun v hv => by unfold pcs at hv; obtain ⟨x, _, rfl⟩ := List.mem_map.1 hv; rfl
set_option maxHeartbeats 1000000 in
set_option maxRecDepth 100000 in
theorem sync {w : World} {B d : Nat} {F : Nat → Prop} {D : Dk} (h : Disk w B d F D) :
    Calls Tryz.prog 15 #[.pointer (some ⟨d, 0, none⟩)] w fun e w' => e = .returned (.int .i64 0) ∧ ∃ F', Disk w' B d F' D.sync ∧ Chg F w w' ∧ ∀ k, F' k → F k := by
  have H := Lib.hid h
  obtain ⟨S, E, W, L, hF⟩ := h
  have hsz := size H.out
  have hpos := L.ok.pos
  obtain ⟨n, hn⟩ : ∃ n, n = D.seen.length := ⟨_, rfl⟩
  have hs := L.sure
  have he := L.seen
  rw [L.ok.same] at hs
  rw [← hn] at hsz hpos hs he
  obtain ⟨A1, c1, rfl, -, -, hA1, hA1'⟩ := hs.slice
  obtain ⟨A2, c2, rfl, -, -, hA2, hA2'⟩ := he.slice
  cases A1 with
  | none => have := hA1 rfl; omega
  | some a1 =>
  cases A2 with
  | none => have := hA2 rfl; omega
  | some a2 =>
  obtain ⟨g1, rfl, hB1, hg1, hr1, ht1⟩ := hA1' _ rfl
  obtain ⟨g2, rfl, hB2, hg2, hr2, ht2⟩ := hA2' _ rfl
  have hc0 := L.cell.1
  have hc1 := L.cell.2.1
  have hz : ((n : Int) == 0) = false := by rw [beq_eq_false_iff_ne]; omega
  have hg1d : g1 ≠ d := fun e => L.s0 (by rw [← e]; rfl)
  have HL := Lib.hid (And.intro L (And.intro hF hn))
  have HX := Lib.hid (And.intro hr2 ht1)
  have HZ := Lib.hid hsz
  have hlen : (pcs D.seen).length = n * 64 := by rw [pcs_length L.ok.seen, ← hn]
  have HLEN := Lib.hid hlen
  clear L hF hn hs he hA1 hA1' hA2 hA2' hr1 hr2 ht1 ht2 hsz hlen
  go_enter Tryz.func15, Tryz.ntmps15
  go_wp2_with fail
  refine HZ.out.mono ?_
  rintro e w' ⟨rfl, h⟩
  subst h
  go_wp2
  refine wp_region_sl [.one (0, true, some 6), .one (1, true, some 7), .one (2, true, some 8), .one (3, true, some 9), .one (4, true, some 10), .one (5, true, some 11), .one (6, true, some 12), .one (7, true, some 13), .one (8, false, some 14)]
                [.one ⟨true, some 6, (Go.Op.move (Go.Operand.tmp 0)), 24, none⟩,
                .one ⟨true, some 7, (Go.Op.nilCheck (Go.Operand.tmp 6)), 0, none⟩,
                .one ⟨true, some 8, (Go.Op.fieldAddr 142 (Go.Operand.tmp 7) 0), 0, none⟩,
                .one ⟨true, some 9, (Go.Op.load 139 (Go.Operand.tmp 8)), 139, none⟩,
                .one ⟨true, some 10, (Go.Op.move (Go.Operand.tmp 0)), 24, none⟩,
                .one ⟨true, some 11, (Go.Op.nilCheck (Go.Operand.tmp 10)), 0, none⟩,
                .one ⟨true, some 12, (Go.Op.fieldAddr 142 (Go.Operand.tmp 11) 1), 0, none⟩,
                .one ⟨true, some 13, (Go.Op.load 139 (Go.Operand.tmp 12)), 139, none⟩,
                .one ⟨false, some 14, (Go.Op.call { callee := (Go.Callee.builtin Go.Builtin.copy), args := #[(Go.Operand.tmp 9), (Go.Operand.tmp 13)], argTypes := #[139, 139] }), 3, none⟩]
                (fun w3 => w3.cell? ⟨d, 0, none⟩ = some (.slice (some ⟨g1, 0, none⟩) n c1) ∧ w3.cell? ⟨d, 1, none⟩ = some (.slice (some ⟨g2, 0, none⟩) n c2)) rfl (by kernel_rfl) (by kernel_rfl) ?_ ?_
  · exact ⟨hc0, hc1⟩
  (repeat (first | ((with_reducible refine sq (v := ?_) (a' := ?_) ?_ ?_ ?_); rotate_left 2; (focus (intro w' hS; go_simp; (first | done | with_reducible rfl | rfl))); (simp only [Act.put, List.setIfInBounds_toArray, List.set_cons_zero, List.set_cons_succ]; rfl)) | ((with_reducible refine sn (a' := ?_) ?_ ?_ ?_); rotate_left; (focus rfl); (simp only [Act.put, List.setIfInBounds_toArray, List.set_cons_zero, List.set_cons_succ]; rfl)) | ((with_reducible refine sf trivial (a' := ?_) ?_ ?_ ?_); rotate_left; (focus rfl); (simp only [Act.put, List.setIfInBounds_toArray, List.set_cons_zero, List.set_cons_succ]; rfl)) | ((with_reducible refine sqg (v := ?_) (a' := ?_) ?_ ?_ ?_ ?_); rotate_left 2; (focus rfl); (focus (intro w' hS; go_simp; (first | done | with_reducible rfl | rfl))); (simp only [Act.put, List.setIfInBounds_toArray, List.set_cons_zero, List.set_cons_succ]; rfl)))); (repeat ((go_bits; (first | ((with_reducible refine sq (v := ?_) (a' := ?_) ?_ ?_ ?_); rotate_left 2; (focus (intro w' hS; go_simp; (first | done | with_reducible rfl | rfl))); (simp only [Act.put, List.setIfInBounds_toArray, List.set_cons_zero, List.set_cons_succ]; rfl)) | ((with_reducible refine sn (a' := ?_) ?_ ?_ ?_); rotate_left; (focus rfl); (simp only [Act.put, List.setIfInBounds_toArray, List.set_cons_zero, List.set_cons_succ]; rfl)) | ((with_reducible refine sf trivial (a' := ?_) ?_ ?_ ?_); rotate_left; (focus rfl); (simp only [Act.put, List.setIfInBounds_toArray, List.set_cons_zero, List.set_cons_succ]; rfl)) | ((with_reducible refine sqg (v := ?_) (a' := ?_) ?_ ?_ ?_ ?_); rotate_left 2; (focus rfl); (focus (intro w' hS; go_simp; (first | done | with_reducible rfl | rfl))); (simp only [Act.put, List.setIfInBounds_toArray, List.set_cons_zero, List.set_cons_succ]; rfl)))); (repeat (first | ((with_reducible refine sq (v := ?_) (a' := ?_) ?_ ?_ ?_); rotate_left 2; (focus (intro w' hS; go_simp; (first | done | with_reducible rfl | rfl))); (simp only [Act.put, List.setIfInBounds_toArray, List.set_cons_zero, List.set_cons_succ]; rfl)) | ((with_reducible refine sn (a' := ?_) ?_ ?_ ?_); rotate_left; (focus rfl); (simp only [Act.put, List.setIfInBounds_toArray, List.set_cons_zero, List.set_cons_succ]; rfl)) | ((with_reducible refine sf trivial (a' := ?_) ?_ ?_ ?_); rotate_left; (focus rfl); (simp only [Act.put, List.setIfInBounds_toArray, List.set_cons_zero, List.set_cons_succ]; rfl)) | ((with_reducible refine sqg (v := ?_) (a' := ?_) ?_ ?_ ?_ ?_); rotate_left 2; (focus rfl); (focus (intro w' hS; go_simp; (first | done | with_reducible rfl | rfl))); (simp only [Act.put, List.setIfInBounds_toArray, List.set_cons_zero, List.set_cons_succ]; rfl)))))); (try go_bits)
  refine se' fun K hK => ?_
  refine wp_copy_v (.tmp 9) (.tmp 13) _ _ 148 64 g1 0 n c1 ⟨g2, 0, none⟩ n c2 n (pcs D.seen) rfl rfl rfl Tryz.underlying139 (by kernel_rfl) (by simp) HLEN.out ?_ ?_ pcs_one ?_
  · intro j v hv
    rw [Addr.add_mid]; exact HX.out.1 j v hv
  · rw [HLEN.out]; exact HX.out.2
  have c5 : Chg (fun k => k = g1) w' (w'.drew.setCells g1 0 (pcs D.seen)) := ((Chg.drew w').mono (fun k _ h => h.elim)).trans (chg_setCells g1 _ _ _) (fun _ _ h => h)
  have hg12 : g1 ≠ g2 := fun e => HL.out.1.se (by rw [e]; rfl)
  have L5 : Lies (w'.drew.setCells g1 0 (pcs D.seen)) B d (.slice (some ⟨g1, 0, none⟩) n c1) (.slice (some ⟨g2, 0, none⟩) n c2) W { D with sure := D.seen } := by
    have hs := HL.out.1.sure.kept (Chg.drew w') (fun _ _ h => h)
    rw [HL.out.1.ok.same, ← HL.out.2.2] at hs
    have h2 := hs.set 0 (pcs D.seen) (by rw [HLEN.out]; omega)
    have e : splice (pcs D.sure) 0 (pcs D.seen) = pcs D.seen := by
      unfold splice
      rw [List.take_zero, List.nil_append, List.drop_eq_nil_of_le (by rw [pcs_length HL.out.1.ok.sure, HL.out.1.ok.same, ← HL.out.2.2, HLEN.out]; omega), List.append_nil]
    rw [e] at h2
    exact ⟨by rw [c5.block d (Array.getElem?_eq_some_iff.1 HL.out.1.cells).1 (Ne.symm hg1d)]; exact HL.out.1.cells, HL.out.1.base, by show RowV _ _ _ _ _ D.seen.length (pcs D.seen); rw [← HL.out.2.2]; exact h2,
      HL.out.1.seen.kept c5 (fun k hk h => HL.out.1.se (by rw [hk, h]; rfl)), HL.out.1.waits.kept c5 (fun k hk h => HL.out.1.sw k hk (by rw [h]; rfl)), HL.out.1.s0, HL.out.1.e0, HL.out.1.w0, HL.out.1.se, HL.out.1.sw, HL.out.1.ew,
      ⟨rfl, HL.out.1.ok.pos, HL.out.1.ok.most, HL.out.1.ok.seen, HL.out.1.ok.seen, HL.out.1.ok.waits⟩⟩
  refine hK _ _ ⟨L5.cell.1.trans (by rw [HL.out.2.2]), L5.cell.2.1.trans (by rw [HL.out.2.2])⟩ fun a'' ha => ?_
  obtain ⟨w5, hw5⟩ : ∃ w5, w5 = w'.drew.setCells g1 0 (pcs D.seen) := ⟨_, rfl⟩
  rw [← hw5] at c5 L5 ⊢
  have hc2 := L5.cell.2.2
  have hf2 : w5.frozen? ⟨d, 2, none⟩ = false := frozen_of_row _ _ _ _ _ L5.cells
  have H5 := Lib.hid (And.intro c5 L5)
  clear hK hw5 c5 L5 hc0 hc1
  try (simp only [Act.put, List.setIfInBounds_toArray, List.set_cons_zero, List.set_cons_succ] at ha)
  subst ha
  refine sl_end ?_
  go_wp2
  go_ret
  refine ⟨rfl, blocks d (.slice (some ⟨g1, 0, none⟩) n c1) (.slice (some ⟨g2, 0, none⟩) n c2) (.slice none 0 0), ⟨_, _, _, ⟨?_, H5.out.2.base, ?_, ?_, RowV.nil _ _ _ _, H5.out.2.s0, H5.out.2.e0, ?_, H5.out.2.se, Sep.nil _, Sep.nil _, H.out.ok.sync⟩, fun k => Iff.rfl⟩, ?_, ?_⟩
  · exact heap_setCell_same w5 d 2 _ 142 _ H5.out.2.cells
  · exact H5.out.2.sure.kept (Chg.setCell w5 ⟨d, 2, none⟩ (.slice none 0 0)) (fun k hk h => H5.out.2.s0 (by rw [hk]; exact congrArg some h))
  · exact H5.out.2.seen.kept (Chg.setCell w5 ⟨d, 2, none⟩ (.slice none 0 0)) (fun k hk h => H5.out.2.e0 (by rw [hk]; exact congrArg some h))
  · intro e; simp [Value.ownBlock] at e
  · refine (H5.out.1.then (Chg.setCell w5 ⟨d, 2, none⟩ _)).mono fun k hk h => ?_
    rcases h with h | h
    · exact (HL.out.2.1 _).2 (.inr (.inl (by rw [h]; rfl)))
    · exact (HL.out.2.1 _).2 (.inl h)
  · intro k hk
    rcases hk with h | h | h | h
    · exact (HL.out.2.1 _).2 (.inl h)
    · exact (HL.out.2.1 _).2 (.inr (.inl h))
    · exact (HL.out.2.1 _).2 (.inr (.inr (.inl h)))
    · simp [Value.ownBlock] at h
end Go.Proofs.YticnjkdaccacaaaGreatDoor.Disk
end
