/- Texts of this work, one behind the other. -/
import Derived.Test.YticnjkdaccacaaaGreatVChiefsPatience15
import Derived.SizedLaws
import Derived.Test.YticnjkdaccacaaaGreatRows
import Derived.WalkKit
import Derived.ProofKit
import Derived.OpenShut
import Derived.ShutString
import Derived.ChangeOld
import Derived.Below
import Derived.KernelRfl
section
namespace Go.Proofs.YticnjkdaccacaaaGreat.Sx
open Go Go.RowKit Base _root_.Go.Proofs.YticnjkdaccacaaaGreat.Own OwnV Disk
theorem rdraw_nil (w : World) : RdRaw w none [] := ⟨fun i hi => by simp at hi, fun r hr => (by cases hr), fun r hr => (by cases hr)⟩
theorem raww_nil : RawW [] := ⟨fun r hr => (by cases hr), fun r hr => (by cases hr)⟩
section
variable {w w0 : World} {R : List Asn}
theorem came_plain {s f g : Int} {b bl bm bk bw bd : Nat} {last now x : Int} {m : List (Int × Int)} {gs : Gs} {D : Dk} (hs : (Lit.int .u8 s).wf = true) (hf : (Lit.int .u8 f).wf = true) (hg : (Lit.int .u32 g).wf = true) (hI : ∀ p ∈ gs, GlI p.2) (hb : (0 ≤ x ∧ x ≤ 4096) ∧ D.waits.length ≤ 100000000) (S : Sat w0 w (chW b bl bm last bk bw now bd gs m x D R)) :
    Calls Tryz.prog 12 #[.pointer (some ⟨b, 0, none⟩), .agg (mgV s f 0 g none 0 0 none 0 0).toArray] w fun e w' => ∃ (A' : Option Addr) (c' : Nat) (gs' : Gs), e = .returned (.tuple #[.slice A' (cameO (ss0 gs m x D) s f 0 g []).1.length (cameO (ss0 gs m x D) s f 0 g []).1.length, .int .i64 (cameO (ss0 gs m x D) s f 0 g []).2]) ∧ vok (.tuple #[.slice A' (cameO (ss0 gs m x D) s f 0 g []).1.length (cameO (ss0 gs m x D) s f 0 g []).1.length, .int .i64 (cameO (ss0 gs m x D) s f 0 g []).2]) = true ∧
      (gs'.map fun p => gl0 p.2) = (cameS (ss0 gs m x D) s f 0 g []).gs ∧ (∀ p ∈ gs', GlI p.2) ∧ keysG gs' = keysG gs ∧ Sat w0 w' (pmA A' c' (cameO (ss0 gs m x D) s f 0 g []).1 :: chW b bl bm last bk bw now bd gs' (cameS (ss0 gs m x D) s f 0 g []).m (cameS (ss0 gs m x D) s f 0 g []).x (cameS (ss0 gs m x D) s f 0 g []).D R) :=
  came_call (rs := []) (Ao := none) (Ar := none) (no := 0) (co := 0) (cr := 0) (t := 0) ⟨hs, hf, rfl, hg, ⟨Nat.le_refl _, Nat.zero_le _⟩, ⟨Nat.le_refl _, Nat.zero_le _⟩⟩ (fun w' _ => rdraw_nil w') raww_nil (by show 0 * 24 ≤ _; omega) (fun r hr => by cases hr) ⟨by show 0 * 24 ≤ _; omega, fun r hr => by cases hr⟩ hI hb S
theorem came_step {s f g z : Int} {b bl bm bk bw bd : Nat} {last now x : Int} {m : List (Int × Int)} {gs : Gs} {D : Dk} {C : Ss RsT} {os : List PM} (C' : Ss RsT) (hC : ss0 gs m x D = C) (hS : cameS C s f 0 g [] = C') (hO : cameO C s f 0 g [] = (os, z)) (hs : (Lit.int .u8 s).wf = true) (hf : (Lit.int .u8 f).wf = true) (hg : (Lit.int .u32 g).wf = true) (hI : ∀ p ∈ gs, GlI p.2) (hb : (0 ≤ x ∧ x ≤ 4096) ∧ D.waits.length ≤ 100000000) (S : Sat w0 w (chW b bl bm last bk bw now bd gs m x D R)) :
    Calls Tryz.prog 12 #[.pointer (some ⟨b, 0, none⟩), .agg (mgV s f 0 g none 0 0 none 0 0).toArray] w fun e w' => ∃ (A' : Option Addr) (c' : Nat) (gs' : Gs), e = .returned (.tuple #[.slice A' os.length os.length, .int .i64 z]) ∧ vok (.tuple #[.slice A' os.length os.length, .int .i64 z]) = true ∧ ss0 gs' C'.m C'.x C'.D = C' ∧ (∀ p ∈ gs', GlI p.2) ∧ keysG gs' = keysG gs ∧ Sat w0 w' (pmA A' c' os :: chW b bl bm last bk bw now bd gs' C'.m C'.x C'.D R) := by
  refine (came_plain hs hf hg hI hb S).mono ?_
  rintro e w' ⟨A', c', gs', h1, h2, h3, h4, h5, S⟩
  rw [hC, hS] at h3 S
  rw [hC, hO] at h1 h2
  rw [hO] at S
  exact ⟨A', c', gs', h1, h2, by unfold ss0; rw [h3], h4, h5, S⟩
theorem told_step {g : Int} {p : Bool} {ls : List RsT} {z : Int} {b bl bm bk bw bd : Nat} {last now x : Int} {m : List (Int × Int)} {gs : Gs} {D : Dk} {l : List (Gl RsT)} (hC : (gs.map fun p => gl0 p.2) = l) (hT : toldG l g = (p, ls, z)) (hg : (Lit.int .u32 g).wf = true) (hI : ∀ p ∈ gs, GlI p.2) (S : Sat w0 w (chW b bl bm last bk bw now bd gs m x D R)) :
    Calls Tryz.prog 14 #[.pointer (some ⟨b, 0, none⟩), .int .u32 g] w fun e w' => ∃ (A : Option Addr), e = .returned (.tuple #[.bool p, .slice A ls.length ls.length, .int .i64 z]) ∧ vok (.tuple #[.bool p, .slice A ls.length ls.length, .int .i64 z]) = true ∧ Sat w0 w' (chW b bl bm last bk bw now bd gs m x D R) := by
  refine (told_call hg (fun p hp => (hI p hp).len) (fun p hp => (hI p hp).few) S).mono ?_
  rintro e w' ⟨A, c, h1, h2, S⟩
  rw [hC, hT] at h1 h2 S
  exact ⟨A, h1, h2, S.tl⟩
theorem phase_step {g z : Int} {b bl bm bk bw bd : Nat} {last now x : Int} {m : List (Int × Int)} {gs : Gs} {D : Dk} {l : List (Gl RsT)} (hC : (gs.map fun p => gl0 p.2) = l) (hT : phaseG l g = z) (hg : (Lit.int .u32 g).wf = true) (S : Sat w0 w (chW b bl bm last bk bw now bd gs m x D R)) :
    Calls Tryz.prog 13 #[.pointer (some ⟨b, 0, none⟩), .int .u32 g] w fun e w' => e = .returned (.int .u8 z) ∧ vok (.int .u8 z) = true ∧ Sat w0 w' (chW b bl bm last bk bw now bd gs m x D R) := by
  have e1 : phaseG (gs.map (·.2)) g = z := by
    rw [← hT, ← hC]
    unfold phaseG
    rw [idx0]
    cases hi : idxG (gs.map (·.2)) g with
    | none => rfl
    | some j =>
      simp only [Option.bind_some, List.getElem?_map]
      cases gs[j]? <;> rfl
  have h := phase_call hg S
  rw [e1] at h
  exact h
theorem chthere_nil : Calls Tryz.prog 22 #[.pointer none] w fun e w' => e = .returned (.bool false) ∧ w' = w := by
  refine calls_start (N := 12) [.pointer none] Tryz.func22 rfl rfl rfl (vok_c rfl rfl) fun a fr => ?_
  skip; (repeat (with_reducible refine wp_seq ?_)); refine wp_region_lit ?_
  (repeat (refine wl_run orcCh_ok 1 rfl fr fun a fr => ?_))
  refine wpList_nil ?_; (repeat (with_reducible refine then_n ?_))
  skip; (repeat (with_reducible refine wp_seq ?_)); refine wp_region_lit ?_
  (repeat (refine wl_run orcCh_ok 1 rfl fr fun a fr => ?_))
  refine wpList_nil ?_; (repeat (with_reducible refine then_n ?_))
  refine wp_ret ?_
  exact ret1 fr rfl rfl ⟨rfl, rfl⟩
set_option maxRecDepth 100000 in
theorem tick_nil : Calls Tryz.prog 9 #[.pointer none] w fun e w' => e = .returned (.tuple #[.slice none 0 0, .int .i64 2]) ∧ w' = w := by
  refine calls_start (N := 64) [.pointer none] Tryz.func9 rfl rfl rfl (vok_c rfl rfl) fun a fr => ?_
  skip; (repeat (with_reducible refine wp_seq ?_)); refine wp_region_lit ?_
  (repeat (refine wl_run orcCh_ok 1 rfl fr fun a fr => ?_))
  refine wpList_nil ?_; (repeat (with_reducible refine then_n ?_))
  skip; (repeat (with_reducible refine wp_seq ?_)); refine wp_region_lit ?_
  (repeat (refine wl_run orcCh_ok 1 rfl fr fun a fr => ?_))
  refine wl_call fr rfl rfl rfl rfl enChThere chthere_nil ?_
  rintro _ w1 ⟨rfl, rfl⟩
  refine ⟨_, rfl, rfl, fun a fr => ?_⟩
  (repeat (refine wl_run orcCh_ok 1 rfl fr fun a fr => ?_))
  refine wpList_nil ?_; (repeat (with_reducible refine then_n ?_))
  skip; (repeat (with_reducible refine wp_seq ?_))
  refine cw_t fr rfl ?_
  skip; (repeat (with_reducible refine wp_seq ?_)); refine wp_region_lit ?_
  (repeat (refine wl_run orcCh_ok 1 rfl fr fun a fr => ?_))
  refine wpList_nil ?_; (repeat (with_reducible refine then_n ?_))
  refine wp_ret ?_
  skip; (repeat (first | (with_reducible refine then_r ?_) | (with_reducible refine blk_r ?_) | (with_reducible refine ng_r ?_)))
  exact ret2 fr rfl rfl rfl ⟨rfl, rfl⟩
set_option maxRecDepth 100000 in
set_option maxHeartbeats 8000000 in
theorem lives_call (S : Sat w0 w R) : Calls Tryz.prog 11 #[] w fun e w' => e = .returned (.bool true) ∧ Sat w0 w' R := by
  refine calls_start (N := 168) [] Tryz.func11 rfl rfl rfl rfl fun a fr => ?_
  skip; (repeat (with_reducible refine wp_seq ?_)); refine wp_region_lit ?_
  (repeat (refine wl_run orcCh_ok 1 rfl fr fun a fr => ?_))
  refine wpList_nil ?_; (repeat (with_reducible refine then_n ?_))
  skip; (repeat (with_reducible refine wp_seq ?_)); refine wp_region_lit ?_
  (repeat (refine wl_run orcCh_ok 1 rfl fr fun a fr => ?_))
  refine wl_call fr rfl rfl rfl rfl enOpened (opened_call S) ?_
  rintro _ w1 ⟨d, b, bl, bm, bk, bw, rfl, S⟩
  refine ⟨_, rfl, rfl, fun a fr => ?_⟩
  (repeat (refine wl_run orcCh_ok 1 rfl fr fun a fr => ?_))
  refine wpList_nil ?_; (repeat (with_reducible refine then_n ?_))
  skip; (repeat (with_reducible refine wp_seq ?_)); refine wp_region_lit ?_
  (repeat (refine wl_run orcCh_ok 1 rfl fr fun a fr => ?_))
  refine wpList_nil ?_; (repeat (with_reducible refine then_n ?_))
  skip; (repeat (with_reducible refine wp_seq ?_))
  refine cw_f fr rfl ?_
  refine wp_skip ?_
  (with_reducible refine then_n ?_)
  have fr := fr.sub (L' := [(2, .pointer (some ⟨b, 0, none⟩))]) ⟨rfl, trivial⟩
  have hopv : (opV xaT).all vok1 = true := rfl
  skip; (repeat (with_reducible refine wp_seq ?_)); refine wp_region_lit ?_
  refine wl_build (cs := opV xaT) (L2 := [(0, .int .u8 2), (1, .string ⟨#[97]⟩), (3, .int .u32 5)]) fr rfl rfl rfl rfl (by simp [Act.eval]) (by kernel_rfl) hopv fun a fr => ?_
  refine wl_lit1 (cs := opV xaT) (z := 4) Tryz.underlying37 (by kernel_rfl) rfl fr rfl rfl rfl rfl rfl rfl hopv S ?_
  intro w2 Ao co S a fr
  (repeat (refine wl_run orcCh_ok 1 rfl fr fun a fr => ?_))
  refine wpList_nil ?_; (repeat (with_reducible refine then_n ?_))
  have hoq := (Sat.rvAt S 0 rfl).2.1
  have hsl : vok1 (.slice Ao 1 co) = true := vok_sl (A := Ao) hoq
  skip; (repeat (with_reducible refine wp_seq ?_)); refine wp_region_lit ?_
  (repeat (refine wl_run orcCh_ok 1 rfl fr fun a fr => ?_))
  refine wl_build (cs := [.int .u8 1, .slice Ao 1 co]) (L2 := [(0, .int .u8 1), (1, .slice Ao 1 co)]) fr rfl rfl rfl rfl (by simp; exact ⟨rfl, (fr.ev (o := .tmp 34) rfl).1⟩) (by kernel_rfl) (show [Value.int .u8 1, .slice Ao 1 co].all vok1 = true by simp only [List.all_cons, List.all_nil, Bool.and_true, Bool.and_eq_true]; exact ⟨rfl, hsl⟩) fun a fr => ?_
  (repeat (refine wl_run orcCh_ok 1 rfl fr fun a fr => ?_))
  refine wl_build (cs := [.int .u8 2, .slice Ao 1 co]) (L2 := [(0, .int .u8 2), (1, .slice Ao 1 co)]) fr rfl rfl rfl rfl (by simp; exact ⟨rfl, (fr.ev (o := .tmp 36) rfl).1⟩) (by kernel_rfl) (show [Value.int .u8 2, .slice Ao 1 co].all vok1 = true by simp only [List.all_cons, List.all_nil, Bool.and_true, Bool.and_eq_true]; exact ⟨rfl, hsl⟩) fun a fr => ?_
  refine wl_lit2 (u1 := .int .u8 1) (u2 := .slice Ao 1 co) (v1 := .int .u8 2) (v2 := .slice Ao 1 co) Tryz.underlying22 (by kernel_rfl) fr rfl rfl rfl rfl rfl rfl (by simp only [List.all_cons, List.all_nil, Bool.and_true, Bool.and_eq_true]; exact ⟨rfl, hsl, rfl, hsl⟩) S ?_
  intro w3 Ap S a fr
  have S := ((((((((S.frontAt 1 rfl).frontAt 1 rfl).frontAt 7 rfl).frontAt 7 rfl).frontAt 7 rfl).frontAt 7 rfl).frontAt 7 rfl).frontAt 7 rfl)
  have S : Sat w0 w3 (chW b bl bm 0 bk bw 0 d [] [] 0 D0 (rvA 39 2 Ap 2 2 [.int .u8 1, .slice Ao 1 co, .int .u8 2, .slice Ao 1 co] :: rvA 104 4 Ao co 1 (opV xaT) :: R)) := S
  have hparts : ∀ w', Sat w0 w' (rvA 39 2 Ap 2 2 [.int .u8 1, .slice Ao 1 co, .int .u8 2, .slice Ao 1 co] :: rvA 104 4 Ao co 1 (opV xaT) :: R) → RdParts w' Ap [(1, Ao, co, [xaT]), (2, Ao, co, [xaT])] := by
    intro w' S
    obtain ⟨q1, q2, q3, q4, q5⟩ := Sat.rvAt S 0 rfl
    have hro : RdOps w' Ao [xaT] := rd_ops S 1 rfl
    refine ⟨fun h => by have := q3 h; omega, fun i hi ad hA j u hu => ?_, fun p hp => ?_⟩
    · obtain ⟨g, rfl, hrg⟩ := q5 ad hA
      have := hrg _ u (el_get (f := pcV) (z := 2) (fun _ => rfl) [(1, Ao, co, [xaT]), (2, Ao, co, [xaT])] i j u hi hu)
      rw [Nat.zero_add] at this
      rw [addr0]; exact this
    · simp only [List.mem_cons, List.not_mem_nil, or_false] at hp
      rcases hp with rfl | rfl <;> exact hro
  have hpw : PartsW [(1, Ao, co, [xaT]), (2, Ao, co, [xaT])] := by
    have hx : ∀ x ∈ [xaT], OpW x := fun x hx => by
      have : x = xaT := by simpa using hx
      rw [this]
      exact ⟨rfl, by unfold maxLen; decide, Nat.zero_le _, rfl⟩
    refine ⟨fun p hp => ?_, fun p hp => ?_, fun p hp => ?_⟩ <;> (simp only [List.mem_cons, List.not_mem_nil, or_false] at hp; rcases hp with rfl | rfl)
    · rfl
    · rfl
    · exact hoq
    · exact hoq
    · exact hx
    · exact hx
  obtain ⟨hadd1, L1⟩ := LogI.start.add (r := beginR 1) (by decide) (by omega)
  refine wl_call fr rfl rfl rfl rfl enBegin (begin_call (ps := [(1, Ao, co, [xaT]), (2, Ao, co, [xaT])]) hparts hpw ⟨Nat.le_refl _, by unfold maxLen; decide⟩ (fun p hp => by cases hp) (Nat.zero_le _) (fun p hp => by cases hp) (LogI.start.b (Nat.zero_le _)) S) ?_
  rintro _ w4 (⟨h1, -⟩ | ⟨-, h2, -⟩ | ⟨-, -, h3, -⟩ | ⟨-, -, -, A4, c4, bn, rfl, hv4, hGI, S⟩)
  · exact absurd (liv0.symm.trans h1) (by decide)
  · exact absurd h2 (by decide)
  · have h3 : (addEI D0 0 (beginR 1) != 0) = true := h3
    rw [hadd1] at h3
    exact absurd h3 (by decide)
  refine ⟨.tuple #[.int .u32 1, .slice A4 2 2, .int .i64 0], rfl, hv4, fun a fr => ?_⟩
  (repeat (refine wl_run orcCh_ok 1 rfl fr fun a fr => ?_))
  refine wpList_nil ?_; (repeat (with_reducible refine then_n ?_))
  have S := Sat.behind S
  obtain ⟨x1, hx1⟩ : ∃ z, z = addXI D0 0 (beginR 1) := ⟨_, rfl⟩
  obtain ⟨D1, hD1⟩ : ∃ z, z = (addDI D0 0 (beginR 1)).sync := ⟨_, rfl⟩
  obtain ⟨R1, hR1⟩ : ∃ z, z = bmA 1 A4 c4 [(1, [xaT]), (2, [xaT])] :: rvA 39 2 Ap 2 2 [.int .u8 1, .slice Ao 1 co, .int .u8 2, .slice Ao 1 co] :: rvA 104 4 Ao co 1 (opV xaT) :: R := ⟨_, rfl⟩
  have L1 := L1.sync
  rw [← hx1, ← hD1] at L1
  have S : Sat w0 w4 (chW b bl bm 1 bk bw 0 d [(bn, newG zV 1 [1, 2])] [(1, 8)] x1 D1 R1) := by rw [hx1, hD1, hR1]; exact S
  have hC1 : ss0 [(bn, newG zV 1 [1, 2])] [(1, 8)] x1 D1 = ⟨[H1], [(1, 8)], x1, D1⟩ := rfl
  have hI1 : ∀ p ∈ [(bn, newG zV 1 [1, 2])], GlI p.2 := fun p hp => by
    have : p = (bn, newG zV 1 [1, 2]) := by simpa using hp
    rw [this]; exact hGI
  generalize [(bn, newG zV 1 [1, 2])] = gs1 at S hC1 hI1
  skip; (repeat (with_reducible refine wp_seq ?_)); refine wp_region_lit ?_
  (repeat (refine wl_run orcCh_ok 1 rfl fr fun a fr => ?_))
  refine wl_build (cs := mgV 2 1 0 1 none 0 0 none 0 0) (L2 := [(0, .int .u8 2), (1, .int .u8 1), (3, .int .u32 1)]) fr rfl rfl rfl rfl (by simp [Act.eval]) (by kernel_rfl) rfl fun a fr => ?_
  refine wl_call fr rfl rfl rfl rfl enCame (came_step ⟨[H2], [(1, 8)], x1, D1⟩ hC1 (liv1 _ _ _).1 (liv1 _ _ _).2 rfl rfl rfl hI1 (L1.b (by omega)) S) ?_
  rintro _ w5 ⟨A5, c5, gs2, rfl, hv5, hC2, hI2, -, S⟩
  have S := S.tl
  refine ⟨.tuple #[.slice A5 0 0, .int .i64 0], rfl, hv5, fun a fr => ?_⟩
  (repeat (refine wl_run orcCh_ok 1 rfl fr fun a fr => ?_))
  refine wpList_nil ?_; (repeat (with_reducible refine then_n ?_))
  have hC2 : ss0 gs2 [(1, 8)] x1 D1 = ⟨[H2], [(1, 8)], x1, D1⟩ := hC2
  skip; (repeat (with_reducible refine wp_seq ?_)); refine wp_region_lit ?_
  (repeat (refine wl_run orcCh_ok 1 rfl fr fun a fr => ?_))
  refine wl_call fr rfl rfl rfl rfl enTold (told_step (p := false) (ls := []) (z := 7) (congrArg Ss.gs hC2) rfl rfl hI2 S) ?_
  rintro _ w6 ⟨A6, rfl, hv6, S⟩
  refine ⟨.tuple #[.bool false, .slice A6 0 0, .int .i64 7], rfl, hv6, fun a fr => ?_⟩
  (repeat (refine wl_run orcCh_ok 1 rfl fr fun a fr => ?_))
  refine wpList_nil ?_; (repeat (with_reducible refine then_n ?_))
  obtain ⟨hadd2, L2⟩ := L1.add (r := [99, 0, 0, 0, 1, 1, 2]) (by decide) (by omega)
  skip; (repeat (with_reducible refine wp_seq ?_)); refine wp_region_lit ?_
  (repeat (refine wl_run orcCh_ok 1 rfl fr fun a fr => ?_))
  refine wl_build (cs := mgV 2 2 0 1 none 0 0 none 0 0) (L2 := [(0, .int .u8 2), (1, .int .u8 2), (3, .int .u32 1)]) fr rfl rfl rfl rfl (by simp [Act.eval]) (by kernel_rfl) rfl fun a fr => ?_
  refine wl_call fr rfl rfl rfl rfl enCame (came_step _ hC2 (liv2 _ _ _ hadd2).1 (liv2 _ _ _ hadd2).2 rfl rfl rfl hI2 (L1.b (by omega)) S) ?_
  rintro _ w7 ⟨A7, c7, gs3, rfl, hv7, hC3, hI3, -, S⟩
  have S := Sat.behind S
  refine ⟨.tuple #[.slice A7 2 2, .int .i64 0], rfl, hv7, fun a fr => ?_⟩
  (repeat (refine wl_run orcCh_ok 1 rfl fr fun a fr => ?_))
  refine wpList_nil ?_; (repeat (with_reducible refine then_n ?_))
  have L2 := L2.sync
  obtain ⟨x2, hx2⟩ : ∃ z, z = addXI D1 x1 [99, 0, 0, 0, 1, 1, 2] := ⟨_, rfl⟩
  obtain ⟨D2, hD2⟩ : ∃ z, z = (addDI D1 x1 [99, 0, 0, 0, 1, 1, 2]).sync := ⟨_, rfl⟩
  rw [← hx2, ← hD2] at L2 hC3 S
  have S : Sat w0 w7 (chW b bl bm 1 bk bw 0 d gs3 [] x2 D2 (pmA A7 c7 [(4, 1, 1), (4, 2, 1)] :: R1)) := S
  have hC3 : ss0 gs3 [] x2 D2 = ⟨[H3], [], x2, D2⟩ := hC3
  obtain ⟨R2, hR2⟩ : ∃ z, z = pmA A7 c7 [(4, 1, 1), (4, 2, 1)] :: R1 := ⟨_, rfl⟩
  rw [← hR2] at S
  skip; (repeat (with_reducible refine wp_seq ?_)); refine wp_region_lit ?_
  (repeat (refine wl_run orcCh_ok 1 rfl fr fun a fr => ?_))
  refine wl_call fr rfl rfl rfl rfl enTold (told_step (p := true) (ls := [[], []]) (z := 0) (congrArg Ss.gs hC3) rfl rfl hI3 S) ?_
  rintro _ w8 ⟨A8, rfl, hv8, S⟩
  refine ⟨.tuple #[.bool true, .slice A8 2 2, .int .i64 0], rfl, hv8, fun a fr => ?_⟩
  (repeat (refine wl_run orcCh_ok 1 rfl fr fun a fr => ?_))
  refine wpList_nil ?_; (repeat (with_reducible refine then_n ?_))
  skip; (repeat (with_reducible refine wp_seq ?_)); refine wp_region_lit ?_
  (repeat (refine wl_run orcCh_ok 1 rfl fr fun a fr => ?_))
  refine wl_build (cs := mgV 6 1 0 1 none 0 0 none 0 0) (L2 := [(0, .int .u8 6), (1, .int .u8 1), (3, .int .u32 1)]) fr rfl rfl rfl rfl (by simp [Act.eval]) (by kernel_rfl) rfl fun a fr => ?_
  refine wl_call fr rfl rfl rfl rfl enCame (came_step _ hC3 (liv3 _ _ _).1 (liv3 _ _ _).2 rfl rfl rfl hI3 (L2.b (by omega)) S) ?_
  rintro _ w9 ⟨A9, c9, gs4, rfl, hv9, hC4, hI4, -, S⟩
  have S := S.tl
  refine ⟨.tuple #[.slice A9 0 0, .int .i64 0], rfl, hv9, fun a fr => ?_⟩
  refine wpList_nil ?_; (repeat (with_reducible refine then_n ?_))
  have hC4 : ss0 gs4 [] x2 D2 = ⟨[H4], [], x2, D2⟩ := hC4
  skip; (repeat (with_reducible refine wp_seq ?_)); refine wp_region_lit ?_
  (repeat (refine wl_run orcCh_ok 1 rfl fr fun a fr => ?_))
  refine wl_call fr rfl rfl rfl rfl enPhase (phase_step (z := 3) (congrArg Ss.gs hC4) rfl rfl S) ?_
  rintro _ w10 ⟨rfl, hv10, S⟩
  refine ⟨_, rfl, hv10, fun a fr => ?_⟩
  (repeat (refine wl_run orcCh_ok 1 rfl fr fun a fr => ?_))
  refine wpList_nil ?_; (repeat (with_reducible refine then_n ?_))
  skip; (repeat (with_reducible refine wp_seq ?_)); refine wp_region_lit ?_
  (repeat (refine wl_run orcCh_ok 1 rfl fr fun a fr => ?_))
  refine wl_build (cs := mgV 6 2 0 1 none 0 0 none 0 0) (L2 := [(0, .int .u8 6), (1, .int .u8 2), (3, .int .u32 1)]) fr rfl rfl rfl rfl (by simp [Act.eval]) (by kernel_rfl) rfl fun a fr => ?_
  refine wl_call fr rfl rfl rfl rfl enCame (came_step _ hC4 (liv4 _ _ _).1 (liv4 _ _ _).2 rfl rfl rfl hI4 (L2.b (by omega)) S) ?_
  rintro _ w11 ⟨A11, c11, gs5, rfl, hv11, hC5, hI5, -, S⟩
  have S := S.tl
  refine ⟨.tuple #[.slice A11 0 0, .int .i64 0], rfl, hv11, fun a fr => ?_⟩
  refine wpList_nil ?_; (repeat (with_reducible refine then_n ?_))
  have hG5 : (gs5.map fun p => gl0 p.2) = [H5] := congrArg Ss.gs hC5
  skip; (repeat (with_reducible refine wp_seq ?_)); refine wp_region_lit ?_
  (repeat (refine wl_run orcCh_ok 1 rfl fr fun a fr => ?_))
  refine wl_call fr rfl rfl rfl rfl enTold (told_step (p := false) (ls := []) (z := 6) hG5 rfl rfl hI5 S) ?_
  rintro _ w12 ⟨A12, rfl, hv12, S⟩
  refine ⟨.tuple #[.bool false, .slice A12 0 0, .int .i64 6], rfl, hv12, fun a fr => ?_⟩
  (repeat (refine wl_run orcCh_ok 1 rfl fr fun a fr => ?_))
  refine wpList_nil ?_; (repeat (with_reducible refine then_n ?_))
  skip; (repeat (with_reducible refine wp_seq ?_)); refine wp_region_lit ?_
  (repeat (refine wl_run orcCh_ok 1 rfl fr fun a fr => ?_))
  refine wpList_nil ?_; (repeat (with_reducible refine then_n ?_))
  skip; (repeat (with_reducible refine wp_seq ?_)); refine wp_region_lit ?_
  (repeat (refine wl_run orcCh_ok 1 rfl fr fun a fr => ?_))
  refine wl_call fr rfl rfl rfl rfl enTickC tick_nil ?_
  rintro _ w13 ⟨rfl, rfl⟩
  refine ⟨_, rfl, rfl, fun a fr => ?_⟩
  (repeat (refine wl_run orcCh_ok 1 rfl fr fun a fr => ?_))
  refine wpList_nil ?_; (repeat (with_reducible refine then_n ?_))
  have S2 := Sat.past S
  rw [hR2, hR1] at S2
  obtain ⟨ad4, A5', c5', hA4, hm0, -, -⟩ := bm_cell (i := 0) S2.tl (by decide)
  obtain ⟨ad4', A6', c6', hA4', hm1, -, -⟩ := bm_cell (i := 1) S2.tl (by decide)
  obtain rfl : ad4 = ad4' := by rw [hA4] at hA4'; injection hA4'
  obtain ⟨ad7, hA7, hm7⟩ := pm_cell (i := 0) S2 0 rfl (by decide)
  skip; (repeat (with_reducible refine wp_seq ?_)); refine wp_region_lit ?_
  (repeat (refine wl_run orcCh_ok 1 rfl fr fun a fr => ?_))
  refine wl_ixe orcCh_ok hA4 fr rfl rfl rfl rfl rfl rfl rfl rfl ⟨by decide, by decide⟩ fun a fr => ?_
  (repeat (refine wl_run orcCh_ok 1 rfl fr fun a fr => ?_))
  refine wl_ldf orcCh_ok (v := .int .u8 1) ⟨(show w13.cell? ((ad4.add (0 * 6)).add 0) = some (.int .u8 1) by rw [add_add]; exact hm0 0 _ rfl), rfl⟩ fr rfl rfl rfl rfl rfl rfl rfl fun a fr => ?_
  (repeat (refine wl_run orcCh_ok 1 rfl fr fun a fr => ?_))
  refine wl_ixe orcCh_ok hA4 fr rfl rfl rfl rfl rfl rfl rfl rfl ⟨by decide, by decide⟩ fun a fr => ?_
  (repeat (refine wl_run orcCh_ok 1 rfl fr fun a fr => ?_))
  refine wl_ldf orcCh_ok (v := .int .u8 1) ⟨(show w13.cell? ((ad4.add (0 * 6)).add 2) = some (.int .u8 1) by rw [add_add]; exact hm0 2 _ rfl), rfl⟩ fr rfl rfl rfl rfl rfl rfl rfl fun a fr => ?_
  (repeat (refine wl_run orcCh_ok 1 rfl fr fun a fr => ?_))
  refine wl_ixe orcCh_ok hA4 fr rfl rfl rfl rfl rfl rfl rfl rfl ⟨by decide, by decide⟩ fun a fr => ?_
  (repeat (refine wl_run orcCh_ok 1 rfl fr fun a fr => ?_))
  refine wl_ldf orcCh_ok (v := .int .u8 2) ⟨(show w13.cell? ((ad4.add (1 * 6)).add 2) = some (.int .u8 2) by rw [add_add]; exact hm1 2 _ rfl), rfl⟩ fr rfl rfl rfl rfl rfl rfl rfl fun a fr => ?_
  (repeat (refine wl_run orcCh_ok 1 rfl fr fun a fr => ?_))
  refine wl_ixe orcCh_ok hA7 fr rfl rfl rfl rfl rfl rfl rfl rfl ⟨by decide, by decide⟩ fun a fr => ?_
  (repeat (refine wl_run orcCh_ok 1 rfl fr fun a fr => ?_))
  refine wl_ldf orcCh_ok (v := .int .u8 4) ⟨(show w13.cell? ((ad7.add (0 * 6)).add 0) = some (.int .u8 4) by rw [add_add]; exact hm7 0 _ rfl), rfl⟩ fr rfl rfl rfl rfl rfl rfl rfl fun a fr => ?_
  (repeat (refine wl_run orcCh_ok 1 rfl fr fun a fr => ?_))
  refine wl_call fr rfl rfl rfl rfl enPhase (phase_step (z := 4) hG5 rfl rfl S) ?_
  rintro _ w14 ⟨rfl, hv14, S⟩
  refine ⟨_, rfl, hv14, fun a fr => ?_⟩
  (repeat (refine wl_run orcCh_ok 1 rfl fr fun a fr => ?_))
  refine wpList_nil ?_; (repeat (with_reducible refine then_n ?_))
  refine wp_ret ?_
  have S3 := Sat.past S
  rw [hR2, hR1] at S3
  exact ret1 fr rfl rfl ⟨rfl, S3.tl.tl.tl.tl⟩
end
end Go.Proofs.YticnjkdaccacaaaGreat.Sx
end
section
namespace Go.Proofs.YticnjkdaccacaaaGreat.Sx
open Go Go.RowKit Base _root_.Go.Proofs.YticnjkdaccacaaaGreat.Own OwnV Disk
def seven : List (List Int) := [[1], [2], [3], [1, 2], [1, 3], [2, 3], [1, 2, 3]]
theorem plan_seven {l : List PartT} (h : planOk l = true) : l.map (·.1) ∈ seven := by
  obtain ⟨h1, h2, h3⟩ := plan_ok h
  have h4 := plan_few h
  have hr : ∀ x ∈ l.map (·.1), 1 ≤ x ∧ x ≤ 3 := fun x hx => by
    obtain ⟨p, hp, rfl⟩ := List.mem_map.1 hx
    exact ⟨(h1 p hp).1, (h1 p hp).2.1⟩
  have hp : (l.map (·.1)).Pairwise (fun x y => x < y) := List.Pairwise.map _ (fun _ _ h => h) h2
  have hl : 0 < (l.map (·.1)).length ∧ (l.map (·.1)).length ≤ 3 := by rw [List.length_map]; exact ⟨h3, h4⟩
  generalize l.map (·.1) = L at hr hp hl
  match L, hr, hp, hl with
  | [a], hr, _, _ =>
    have := hr a (by simp)
    have : a = 1 ∨ a = 2 ∨ a = 3 := by omega
    rcases this with rfl | rfl | rfl <;> decide
  | [a, b], hr, hp, _ =>
    have h1 := hr a (by simp)
    have h2 := hr b (by simp)
    have h3 : a < b := by simpa using hp
    have : (a = 1 ∧ b = 2) ∨ (a = 1 ∧ b = 3) ∨ (a = 2 ∧ b = 3) := by omega
    rcases this with ⟨rfl, rfl⟩ | ⟨rfl, rfl⟩ | ⟨rfl, rfl⟩ <;> decide
  | [a, b, c], hr, hp, _ =>
    have h1 := hr a (by simp)
    have h2 := hr b (by simp)
    have h3 := hr c (by simp)
    simp only [List.pairwise_cons, List.mem_cons, List.not_mem_nil, or_false, forall_eq_or_imp, forall_eq] at hp
    have : a = 1 ∧ b = 2 ∧ c = 3 := by omega
    obtain ⟨rfl, rfl, rfl⟩ := this
    decide
  | [], _, _, hl => simp at hl
  | _ :: _ :: _ :: _ :: _, _, _, hl => simp at hl
def G0 (L : List Int) : Gl RsT := gl0 (newG zV 1 L)
def gV (L : List Int) (i : Nat) : Gl RsT := (L.take i).foldl (fun G n => voteG G n.toNat []) (G0 L)
theorem came_yes {L : List Int} (hL : L ∈ seven) {i : Nat} (hi : i + 1 < L.length) (m : List (Int × Int)) (x : Int) (D : Dk) : cameS ⟨[gV L i], m, x, D⟩ 2 (L.getD i 0) 0 1 [] = ⟨[gV L (i + 1)], m, x, D⟩ ∧ cameO ⟨[gV L i], m, x, D⟩ 2 (L.getD i 0) 0 1 [] = ([], 0) := by
  have h3 : i = 0 ∨ i = 1 := by
    have : L.length ≤ 3 := by
      simp only [seven, List.mem_cons, List.not_mem_nil, or_false] at hL
      rcases hL with rfl | rfl | rfl | rfl | rfl | rfl | rfl <;> decide
    omega
  simp only [seven, List.mem_cons, List.not_mem_nil, or_false] at hL
  rcases hL with rfl | rfl | rfl | rfl | rfl | rfl | rfl <;> rcases h3 with rfl | rfl <;> first | exact ⟨rfl, rfl⟩ | (simp at hi)
theorem gV_is {L : List Int} (hL : L ∈ seven) {i : Nat} (hi : i ≤ L.length) : (gV L i).g = 1 ∧ (gV L i).ph = 1 ∧ (gV L i).com = false ∧ sites allV (gV L i) = L := by
  have h3 : i = 0 ∨ i = 1 ∨ i = 2 ∨ i = 3 := by
    have : L.length ≤ 3 := by
      simp only [seven, List.mem_cons, List.not_mem_nil, or_false] at hL
      rcases hL with rfl | rfl | rfl | rfl | rfl | rfl | rfl <;> decide
    omega
  simp only [seven, List.mem_cons, List.not_mem_nil, or_false] at hL
  rcases hL with rfl | rfl | rfl | rfl | rfl | rfl | rfl <;> rcases h3 with rfl | rfl | rfl | rfl <;> exact ⟨rfl, rfl, rfl, rfl⟩
theorem due_nil (now : Int) : Clk.due now [] = [] := by unfold Clk.due; simp
theorem wrap_small {z : Int} (h : -1000000 ≤ z ∧ z ≤ 1000000) : IntKind.wrap .i64 z = z := by
  exact IntWalk.i64_in _ ⟨by omega, by omega⟩
theorem due_one (now g t : Int) (h : (0 ≤ now ∧ now ≤ 1000) ∧ 0 ≤ t ∧ t ≤ 1000) : Clk.due now [(g, t)] = if t = now then [g] else [] := by
  unfold Clk.due
  by_cases h2 : t = now
  · rw [if_pos h2, List.filter_cons, if_pos (by show (IntKind.wrap .i64 (t - now) == 0) = true; rw [wrap_small (by omega), h2, Int.sub_self]; rfl)]
    simp
  · rw [if_neg h2, List.filter_cons, if_neg (by show ¬ (IntKind.wrap .i64 (t - now) == 0) = true; rw [wrap_small (by omega)]; simp; omega)]
    simp
theorem risen_one (g : Int) : risen [g] = [g] := by unfold risen; simp
theorem tick_none (m : List (Int × Int)) (x : Int) (D : Dk) (now : Int) (hm : m = []) : tickAll (⟨[], m, x, D⟩ : Ss RsT) now = (⟨[], m, x, D⟩, []) := by
  subst hm
  unfold tickAll
  rw [due_nil]
  show (risen []).foldl _ _ = _
  rw [show risen [] = [] by unfold risen; simp]
  rfl
theorem tick_one {G : Gl RsT} (hg : G.g = 1) (hp : G.ph = 1) (t x : Int) (D : Dk) (now : Int) (h9 : (0 ≤ now ∧ now ≤ 1000) ∧ 0 ≤ t ∧ t ≤ 1000) : tickAll ⟨[G], [(1, t)], x, D⟩ now = if t = now then (⟨[abortG G], [], x, D⟩, toM 5 1 (sites allV G)) else (⟨[G], [(1, t)], x, D⟩, []) := by
  unfold tickAll
  rw [due_one _ _ _ h9]
  show (risen [G.g]).foldl _ _ = _
  rw [risen_one, hg]
  by_cases h : t = now
  · rw [if_pos h, if_pos h]
    show tickF [1] (⟨[G], delM [(1, t)] 1, x, D⟩, []) 1 = _
    have hf : findG [G] 1 = some (0, G) := by unfold findG idxG; rw [if_pos hg]; rfl
    unfold tickF tickG tickGO
    simp only [hf]
    rw [hp]
    show (putC _ 0 ⟨abortG G, delM (delM [(1, t)] 1) G.g, x, D⟩, [] ++ toM 5 G.g (sites allV G)) = _
    rw [hg]
    rfl
  · rw [if_neg h, if_neg h]
    show tickF [] (⟨[G], [(1, t)], x, D⟩, []) 1 = _
    have hf : findG [G] 1 = some (0, G) := by unfold findG idxG; rw [if_pos hg]; rfl
    unfold tickF tickG tickGO
    simp only [hf]
    rw [hp]
    rfl
end Go.Proofs.YticnjkdaccacaaaGreat.Sx
end
section
namespace Go.Proofs.YticnjkdaccacaaaGreat.Base
open Go Go.RowKit Go.ChangeShapes Go.WideShapes
namespace Rdr
def smT {α : Type} : α → Prop := fun _ => True
def smL {α : Type} (s : α → Prop) : List α → Prop := fun l => l.length ≤ 140737488351232 ∧ ∀ y ∈ l, s y
def smP {α β : Type} (s : α → Prop) (t : β → Prop) : α × β → Prop := fun x => s x.1 ∧ t x.2
def OfS (P : Program) (t : TypeId) {α : Type} (r : Rdr α) (s : α → Prop) : Prop :=
  P.cellsOf t = r.sz ∧ ∀ (H : Type) (enc : TypeId × Value → H) (w : World) (base : Nat) (spare : Nat → Bool) (held : Bool) (fuel : Nat) (cs : List Value) (x : DataW H × List MemPlace),
    DataW.trod enc P w base spare held fuel t cs = some x → ∃ y, r.R w cs y ∧ ((∀ n ∈ x.1.weights P t, n ≤ reachBytes) → s y)
section
variable {P : Program} {t : TypeId}
theorem ofS {α : Type} {r : Rdr α} (h : Of P t r) : OfS P t r smT := ⟨h.1, fun H enc w base spare held fuel cs x hx => by
  obtain ⟨y, hy⟩ := h.2 H enc w base spare held fuel cs x hx
  exact ⟨y, hy, fun _ => trivial⟩⟩
theorem all_mem {H : Type} {e : TypeId} : ∀ {l : List (DataW H)} {d : DataW H}, d ∈ l → ∀ n ∈ d.weights P e, n ∈ DataW.weightsAll P e l := by
  intro l
  induction l with
  | nil => intro d hd; cases hd
  | cons c l ih =>
    intro d hd n hn
    simp only [DataW.weightsAll, List.mem_append]
    rcases List.mem_cons.1 hd with rfl | hd
    · exact .inl hn
    · exact .inr (ih hd n hn)
theorem ofS_sl {α : Type} {r : Rdr α} {s : α → Prop} {e : TypeId} (ht : P.underlying t = some (.slice e)) (hc : P.cellsOf t = 1) (he : OfS P e r s) {B : Nat} (hB : P.bytesOf e = B) (hB0 : 0 < B) : OfS P t (sl r) (smL s) := by
  refine ⟨hc, fun H enc w base spare held fuel cs x h => ?_⟩
  rcases Deep.open_slice ht h with ⟨rfl, _⟩ | ⟨a, len, cap, m, n, D, Pl, rfl, hb, hl, hm, hmm, hxe, hx⟩
  · exact ⟨[], ⟨none, 0, rfl, Nat.le_refl _, Nat.zero_le _, fun h => absurd rfl h⟩, fun _ => ⟨Nat.zero_le _, fun y hy => by cases hy⟩⟩
  · rw [he.1] at hx
    have hlm : len ≤ m := by rw [hmm]; split <;> omega
    have hex : ∀ i, i < len → ∃ y c, w.cells? base (a.add (i * r.sz)) r.sz = some c ∧ r.R w c y ∧ ((∀ n ∈ (D i).weights P e, n ≤ reachBytes) → s y) := by
      intro i hi
      obtain ⟨c, h1, h2⟩ := hx i (by omega)
      obtain ⟨y, hy, hs⟩ := he.2 H enc w base spare held n _ _ h2
      exact ⟨y, c, h1, hy, hs⟩
    obtain ⟨f, hf⟩ : ∃ f : Fin len → α, ∀ i : Fin len, ∃ c, w.cells? base (a.add (i.val * r.sz)) r.sz = some c ∧ r.R w c (f i) ∧ ((∀ n ∈ (D i.val).weights P e, n ≤ reachBytes) → s (f i)) :=
      ⟨fun i => (hex i.val i.isLt).choose, fun i => (hex i.val i.isLt).choose_spec⟩
    refine ⟨List.ofFn f, ⟨some a, cap, by simp, by simp; exact hl, hm, fun hne => ⟨a, rfl, fun hp => ?_, fun i y hy => ?_⟩⟩, fun hw => ⟨?_, fun y hy => ?_⟩⟩
    · have hpos : 0 < len := by
        rcases Nat.eq_zero_or_pos len with h0 | h0
        · subst h0; simp at hne
        · exact h0
      obtain ⟨c, h1, h2, _⟩ := hf ⟨0, hpos⟩
      obtain ⟨_, hlen, hcell⟩ := World.cells?_some h1
      have h3 := hcell 0 (by omega)
      rw [List.getElem?_eq_getElem (by omega)] at h3
      have h4 := World.block_lt_of_cell? w _ h3
      rw [add_block, add_block] at h4
      exact h4
    · have hi : i < len := by
        have := (List.getElem?_eq_some_iff.1 hy).1; simpa using this
      have h2 := (List.getElem?_eq_some_iff.1 hy).2
      rw [List.getElem_ofFn] at h2
      obtain ⟨c, h3, h4, _⟩ := hf ⟨i, hi⟩
      rw [h2] at h4
      refine ⟨c, h4, fun j u hu => ?_⟩
      obtain ⟨_, hlen, hcell⟩ := World.cells?_some h3
      have hj : j < r.sz := by have := (List.getElem?_eq_some_iff.1 hu).1; omega
      have h5 := hcell j hj
      rw [add_add] at h5
      rw [h5]; exact hu
    · rw [List.length_ofFn]
      subst hxe
      have h1 := hw ((((List.range len).map D).length + ((List.range (m - len)).map fun j => D (len + j)).length) * P.bytesOf e) (by simp only [DataW.weights, ht]; exact List.mem_cons_self)
      rw [List.length_map, List.length_range, hB] at h1
      have h2 : len * 1 ≤ (len + ((List.range (m - len)).map fun j => D (len + j)).length) * B := Nat.mul_le_mul (Nat.le_add_right _ _) hB0
      have h3 : reachBytes ≤ 140737488351232 := by decide
      omega
    · obtain ⟨i, hi, rfl⟩ := List.getElem_of_mem hy
      rw [List.length_ofFn] at hi
      rw [List.getElem_ofFn]
      obtain ⟨c, _, _, h4⟩ := hf ⟨i, hi⟩
      refine h4 fun n hn => hw n ?_
      subst hxe
      simp only [DataW.weights, ht]
      exact List.mem_cons_of_mem _ (List.mem_append_left _ (all_mem (List.mem_map.2 ⟨i, List.mem_range.2 hi, rfl⟩) n hn))
def OfFS (P : Program) (fs : List Field) (off : Nat) {α : Type} (r : Rdr α) (s : α → Prop) : Prop :=
  ∀ (H : Type) (enc : TypeId × Value → H) (w : World) (base : Nat) (spare : Nat → Bool) (held : Bool) (fuel : Nat) (cs : List Value) (xs : List (DataW H × List MemPlace)),
    cs.length = off + r.sz → (fs.mapM fun f => DataW.trod enc P w base spare held fuel f.type ((cs.drop f.offset).take (P.cellsOf f.type))) = some xs → ∃ y, r.R w (cs.drop off) y ∧ ((∀ n ∈ DataW.weightsEach P (fs.map (·.type)) (xs.map (·.1)), n ≤ reachBytes) → s y)
theorem ofFS_nil (off : Nat) : OfFS P [] off unit smT := by
  intro H enc w base spare held fuel cs xs hl _
  exact ⟨(), List.drop_eq_nil_of_le (by rw [hl]; exact Nat.le_refl _), fun _ => trivial⟩
theorem ofFS_cons {α β : Type} {r : Rdr α} {s : Rdr β} {f : Field} {fs : List Field} {off : Nat} {s1 : α → Prop} {s2 : β → Prop} (hf : f.offset = off) (hr : OfS P f.type r s1) (hs : OfFS P fs (off + r.sz) s s2) : OfFS P (f :: fs) off (pair r s) (smP s1 s2) := by
  intro H enc w base spare held fuel cs xs hl h
  have hl' : cs.length = off + (r.sz + s.sz) := hl
  simp only [List.mapM_cons, Option.bind_eq_bind, Option.bind_eq_some_iff] at h
  obtain ⟨x, h1, ys, h2, h3⟩ := h
  injection h3 with h3
  rw [hf, hr.1] at h1
  obtain ⟨a, ha, ha2⟩ := hr.2 H enc w base spare held fuel _ _ h1
  obtain ⟨b, hb, hb2⟩ := hs H enc w base spare held fuel cs ys (by omega) h2
  refine ⟨(a, b), ⟨(cs.drop off).take r.sz, cs.drop (off + r.sz), ?_, ha, hb⟩, fun hw => ⟨ha2 fun n hn => hw n ?_, hb2 fun n hn => hw n ?_⟩⟩
  · rw [← List.drop_drop, List.take_append_drop]
  · rw [← h3]
    simp only [List.map_cons, DataW.weightsEach, List.mem_append]
    exact .inl hn
  · rw [← h3]
    simp only [List.map_cons, DataW.weightsEach, List.mem_append]
    exact .inr hn
theorem ofS_st {α : Type} {r : Rdr α} {s : α → Prop} {fs : Array Field} (ht : P.underlying t = some (.struct fs)) (hc : P.cellsOf t = r.sz) (hF : OfFS P fs.toList 0 r s) : OfS P t r s := by
  refine ⟨hc, fun H enc w base spare held fuel cs x h => ?_⟩
  cases fuel with
  | zero => simp [DataW.trod] at h
  | succ n =>
    unfold DataW.trod at h
    rw [ht] at h
    simp only at h
    split at h
    · rename_i hl
      simp only [Option.map_eq_some_iff] at h
      obtain ⟨xs, hxs, hx⟩ := h
      obtain ⟨y, hy, hy2⟩ := hF H enc w base spare held n cs xs (by rw [hl, hc]; omega) hxs
      refine ⟨y, by simpa using hy, fun hw => hy2 fun k hk => hw k ?_⟩
      rw [← hx]
      simp only [DataW.weights, ht]
      exact hk
    · cases h
theorem ofS_slice_arg {α : Type} {r : Rdr α} {s : List α → Prop} {H : Type} {enc : TypeId × Value → H} {w : World} {base : Nat} {spare : Nat → Bool} {held : Bool} {A : Option Addr} {len cap : Nat} {d : DataW H} {ps : List MemPlace} {ts : List TypeId} {ds : List (DataW H)} {j : Nat}
    (hsz : (DataW.weightsEach P ts ds).all (· ≤ reachBytes) = true) (hj : ts[j]? = some t) (hd' : ds[j]? = some d) (h : OfS P t (sl r) s) (hd : DataW.Trod enc P w base spare held t (.slice A len cap) d ps) :
    ∃ l : List α, l.length = len ∧ len ≤ cap ∧ cap ≤ maxLen ∧ Row r w A l ∧ s l := by
  obtain ⟨fuel, hf⟩ := hd
  obtain ⟨l, ⟨A', cap', e, h1, h2, h3⟩, h4⟩ := h.2 H enc w base spare held fuel _ _ hf
  simp only [Value.cells, List.cons.injEq, and_true] at e
  injection e with e1 e2 e3
  subst e1 e2 e3
  exact ⟨l, rfl, h1, h2, h3, h4 fun n hn => of_decide_eq_true (List.all_eq_true.1 hsz n (DataW.weights_mem_each hj hd' n hn))⟩
end
end Rdr
end Go.Proofs.YticnjkdaccacaaaGreat.Base
end
section
namespace Go.Proofs.YticnjkdaccacaaaGreat.Sx
open Go Go.RowKit Base _root_.Go.Proofs.YticnjkdaccacaaaGreat.Own OwnV Disk
section
variable {P : Program} {T : Orc} {Q : Exit → Act → World → Prop} {S' : World → Prop} {Df : List Deferred} {N : Nat} {a : Act} {w : World} {L : Env}
theorem sl_ixe (hT : T.Ok P) {s : SOp} {rest : List Itm} {t : TypeId} {x ix : Operand} {d n c e z : Nat} {A : Option Addr} {ad : Addr} {ki : IntKind} {i : Int} (hA : A = some ad) (fr : FrD Df N a L) (hw : wantS L s = some true) (hq : s.q = true) (ho : s.op = .indexAddr t x ix) (hd : s.dst = some d) (hlt : Nat.blt d N = true) (hx : ev L x = some (.slice A n c)) (hi : ev L ix = some (.int ki i))
    (ht : T.ty.lookup t = some (.slice e)) (hs : T.sz.lookup e = some z) (hb : 0 ≤ i ∧ i < (n : Int)) (h : ∀ a', FrD Df N a' ((d, .pointer (some (ad.add (i.toNat * z)))) :: L) → SL P Q S' rest a' w) : SL P Q S' (.one s :: rest) a w := by
  subst hA
  exact sl_q fr hw hq hd hlt (fun w' _ => indexAddr_run hT fr (o := s.oper) ho hx hi ht hs hb.1 hb.2 w') rfl h
end
theorem parts_of {w : World} {A : Option Addr} {l : List PartT} (h : Rdr.Row partR w A l) : ∃ ps : List RawP, ps.map partOf = l ∧ PartsW ps ∧ RdParts w A ps := by
  obtain ⟨ps, h1, h2⟩ := choose_list (n := l.length) (p := fun i (p : RawP) => ∃ hi : i < l.length, partOf p = l[i] ∧ (Lit.int .u8 p.1).wf = true ∧ (p.2.2.2.length ≤ p.2.2.1 ∧ p.2.2.1 ≤ maxLen) ∧ Rdr.Row opR w p.2.1 p.2.2.2 ∧ ∃ ad, A = some ad ∧ ∀ j u, (pcV p)[j]? = some u → w.cell? (ad.add (i * 2 + j)) = some u) (fun i hi => by
    obtain ⟨cs, h1, ad, hA, hc⟩ := row_get h hi
    obtain ⟨A', c', rfl, hk, hm, hro⟩ := part_of h1
    exact ⟨(l[i].1, A', c', l[i].2.1), hi, rfl, hk, hm, hro, ad, hA, hc⟩)
  have hm : ps.map partOf = l := by
    apply List.ext_getElem
    · rw [List.length_map, h1]
    · intro i q1 q2
      rw [List.getElem_map]
      exact (h2 i (by simpa using q1)).2.1
  have hmem : ∀ p ∈ ps, (Lit.int .u8 p.1).wf = true ∧ (p.2.2.2.length ≤ p.2.2.1 ∧ p.2.2.1 ≤ maxLen) ∧ Rdr.Row opR w p.2.1 p.2.2.2 := fun p hp => by
    obtain ⟨i, hi, rfl⟩ := List.mem_iff_getElem.1 hp
    exact ⟨(h2 i hi).2.2.1, (h2 i hi).2.2.2.1, (h2 i hi).2.2.2.2.1⟩
  refine ⟨ps, hm, ⟨fun p hp => (hmem p hp).1, fun p hp => (hmem p hp).2.1, fun p hp x hx => ?_⟩, ⟨fun hA => ?_, fun i hi ad hA => ?_, fun p hp => ⟨fun hA => ?_, ?_⟩⟩⟩
  · obtain ⟨i, hi, rfl⟩ := List.mem_iff_getElem.1 hx
    obtain ⟨cs, h1, _⟩ := row_get (hmem p hp).2.2 hi
    exact (op_of h1).2
  · have : l = [] := by rw [hA] at h; exact row_none h
    rw [this] at hm
    simpa using hm
  · obtain ⟨ad', hA', hc⟩ := (h2 i hi).2.2.2.2.2
    rw [hA] at hA'
    injection hA' with hA'
    subst hA'
    exact hc
  · have := (hmem p hp).2.2
    rw [hA] at this
    exact row_none this
  · exact flat_cells (r := opR) (z := 4) rfl (by decide) (fun _ => rfl) (fun w cs x hx => (op_of hx).1) (hmem p hp).2.2
theorem RdParts.below {w w' : World} {A : Option Addr} {ps : List RawP} (h : RdParts w A ps) (hb : Below w.heap.size w w') : RdParts w' A ps :=
  ⟨h.none, fun i hi ad hA j u hu => RR.cellAt hb (h.cell i hi ad hA j u hu), fun p hp => ⟨(h.ops p hp).none, fun ad hA j u hu => RR.cellAt hb ((h.ops p hp).cell ad hA j u hu)⟩⟩
section
variable {w w0 : World} {R : List Asn} {b bl bm bk bw bd : Nat} {last now x : Int} {m : List (Int × Int)} {gs : Gs} {D : Dk}
theorem tick_step {C C' : Ss RsT} {os : List PM} {now' : Int} (hC : ss0 gs m x D = C) (hn : IntKind.wrap .i64 (now + 1) = now') (hT : tickAll C now' = (C', os)) (hI : ∀ p ∈ gs, GlI p.2) (hm : m.length ≤ 1000) (hgs : gs.length ≤ 1000) (S : Sat w0 w (chW b bl bm last bk bw now bd gs m x D R)) :
    Calls Tryz.prog 9 #[.pointer (some ⟨b, 0, none⟩)] w fun e w' => ∃ (A' : Option Addr) (c' : Nat) (gs' : Gs), e = .returned (.tuple #[.slice A' os.length os.length, .int .i64 0]) ∧ vok (.tuple #[.slice A' os.length os.length, .int .i64 0]) = true ∧ ss0 gs' C'.m x D = C' ∧ (∀ p ∈ gs', GlI p.2) ∧ keysG gs' = keysG gs ∧ Sat w0 w' (pmA A' c' os :: chW b bl bm last bk bw now' bd gs' C'.m x D R) := by
  refine (tick_call hI hm hgs S).mono ?_
  rintro e w' ⟨A', c', gs', h1, h2, h3, h4, h5, S⟩
  rw [hn, hC, hT] at h1 h2 h3 S
  exact ⟨A', c', gs', h1, h2, h3, h4, h5, S⟩
end
end Go.Proofs.YticnjkdaccacaaaGreat.Sx
end
section
namespace Go.Proofs.YticnjkdaccacaaaGreat.Sx
open Go Go.RowKit Base _root_.Go.Proofs.YticnjkdaccacaaaGreat.Own OwnV Disk
set_option maxRecDepth 100000 in
set_option maxHeartbeats 8000000 in
theorem patience_call {w : World} {Ap : Option Addr} {cp : Nat} {ps : List RawP} {a1 a2 : Int} (hR : ∀ w', Sat w w' [] → RdParts w' Ap ps) (hW : PartsW ps) (hmp : ps.length ≤ cp ∧ cp ≤ maxLen) (h1 : (Lit.int .u8 a1).wf = true) (h2 : (Lit.int .u8 a2).wf = true) :
    Calls Tryz.prog 3 #[.slice Ap ps.length cp, .int .u8 a1, .int .u8 a2] w fun e w' => e = .returned (.bool true) ∧ Sat w w' [] := by
  have S := Sat.start w
  refine calls_start (N := 179) [.slice Ap ps.length cp, .int .u8 a1, .int .u8 a2] Tryz.func3 rfl rfl rfl (vok_c (vok_sl hmp) (vok_c h1 (vok_c h2 rfl))) fun a fr => ?_
  have ha1 : 0 ≤ a1 ∧ a1 ≤ 255 := by
    rw [wf_int] at h1
    have e1 : IntKind.u8.min = 0 := by decide
    have e2 : IntKind.u8.max = 255 := by decide
    omega
  have ha2 : 0 ≤ a2 ∧ a2 ≤ 255 := by
    rw [wf_int] at h2
    have e1 : IntKind.u8.min = 0 := by decide
    have e2 : IntKind.u8.max = 255 := by decide
    omega
  skip; (repeat (with_reducible refine wp_seq ?_)); refine wp_region_lit ?_
  (repeat (refine wl_run orcCh_ok 1 rfl fr fun a fr => ?_))
  refine wpList_nil ?_; (repeat (with_reducible refine then_n ?_))
  skip; (repeat (with_reducible refine wp_seq ?_)); refine wp_region_lit ?_
  (repeat (refine wl_run orcCh_ok 1 rfl fr fun a fr => ?_))
  refine wl_call fr rfl rfl rfl rfl enOpened (opened_call S) ?_
  rintro _ w1 ⟨d, b, bl, bm, bk, bw, rfl, S⟩
  refine ⟨_, rfl, rfl, fun a fr => ?_⟩
  (repeat (refine wl_run orcCh_ok 1 rfl fr fun a fr => ?_))
  refine wpList_nil ?_; (repeat (with_reducible refine then_n ?_))
  skip; (repeat (with_reducible refine wp_seq ?_)); refine wp_region_lit ?_
  (repeat (refine wl_run orcCh_ok 1 rfl fr fun a fr => ?_))
  refine wpList_nil ?_; (repeat (with_reducible refine then_n ?_))
  skip; (repeat (with_reducible refine wp_seq ?_))
  refine cw_f fr rfl ?_
  refine wp_skip ?_
  (with_reducible refine then_n ?_)
  skip; (repeat (with_reducible refine wp_seq ?_)); refine wp_region_lit ?_
  (repeat (refine wl_run orcCh_ok 1 rfl fr fun a fr => ?_))
  refine wpList_nil ?_; (repeat (with_reducible refine then_n ?_))
  have hwa : IntKind.wrap .i64 a1 = a1 := wrap_small (by omega)
  have hwa2 : IntKind.wrap .i64 a2 = a2 := wrap_small (by omega)
  have htm : a1.tmod 20 = a1 % 20 := Int.tmod_eq_emod_of_nonneg ha1.1
  obtain ⟨q, hq, hq2⟩ : ∃ q : Nat, a1.tmod 20 = q ∧ q < 20 := ⟨(a1.tmod 20).toNat, by omega, by omega⟩
  skip; (repeat (with_reducible refine wp_seq ?_))
  refine wp_block ?_
  refine cw_loop (fun r a w2 => ∃ i : Nat, i + r = q + 1 ∧ i ≤ q ∧ Fr 179 a [(0, .slice Ap ps.length cp), (1, .int .u8 a1), (2, .int .u8 a2), (8, .pointer (some ⟨b, 0, none⟩)), (9, .int .i64 (i : Int))] ∧ Sat w w2 (chW b bl bm 0 bk bw (i : Int) d [] [] 0 D0 [])) (q + 1)
    ⟨0, by omega, by omega, fr.sub ⟨rfl, rfl, rfl, rfl, rfl, trivial⟩, S⟩ ?_ ?_
  · rintro a w2 ⟨i, h, h', -⟩
    omega
  clear fr S
  rintro r a w2 ⟨i, hi, hi', fr, S⟩
  skip; (repeat (with_reducible refine wp_seq ?_)); refine wp_region_lit ?_
  (repeat (refine wl_run orcCh_ok 1 rfl fr fun a fr => ?_))
  refine wpList_nil ?_; (repeat (with_reducible refine then_n ?_))
  by_cases hlt : i < q
  · have fr := fr.bool (d := 36) rfl (decide_eq_true (show (i : Int) < (IntKind.wrap .i64 a1).tmod 20 by rw [hwa]; omega))
    skip; (repeat (with_reducible refine wp_seq ?_))
    refine cw_t fr rfl ?_
    refine wp_skip ?_
    (with_reducible refine then_n ?_)
    skip; (repeat (with_reducible refine wp_seq ?_))
    refine wp_block ?_
    skip; (repeat (with_reducible refine wp_seq ?_)); refine wp_region_lit ?_
    (repeat (refine wl_run orcCh_ok 1 rfl fr fun a fr => ?_))
    refine wl_call fr rfl rfl rfl rfl enTickC (tick_step (C := ⟨[], [], 0, D0⟩) (C' := ⟨[], [], 0, D0⟩) (os := []) (now' := ((i + 1 : Nat) : Int)) rfl (i64_next hlt (by omega)) (tick_none _ _ _ _ rfl) (fun p hp => by cases hp) (Nat.zero_le _) (Nat.zero_le _) S) ?_
    rintro _ w3 ⟨A3, c3, gs3, rfl, hv3, hC3, hI3, hK3, S⟩
    have hg3 : gs3 = [] := by have := congrArg List.length hK3; simpa [keysG] using this
    subst hg3
    have S := S.tl
    refine ⟨_, rfl, hv3, fun a fr => ?_⟩
    refine wpList_nil ?_; (repeat (with_reducible refine then_n ?_))
    (repeat (first | (with_reducible refine then_n ?_) | (with_reducible refine blk_n ?_)))
    skip; (repeat (with_reducible refine wp_seq ?_)); refine wp_region_lit ?_
    (repeat (refine wl_run orcCh_ok 1 rfl fr fun a fr => ?_))
    refine wpList_nil ?_; (repeat (with_reducible refine then_n ?_))
    have fr := fr.spell (d := 9) rfl (congrArg (Value.int .i64) (i64_next hlt (by omega)))
    exact ⟨i + 1, by omega, by omega, fr.sub ⟨rfl, rfl, rfl, rfl, rfl, trivial⟩, S⟩
  have fr := fr.bool (d := 36) rfl (decide_eq_false (show ¬ (i : Int) < (IntKind.wrap .i64 a1).tmod 20 by rw [hwa]; omega))
  obtain rfl : i = q := by omega
  skip; (repeat (with_reducible refine wp_seq ?_))
  refine cw_f fr rfl ?_
  refine wp_exit ?_
  skip; (repeat (first | (with_reducible refine then_e ?_) | (with_reducible refine ng_e ?_) | (with_reducible refine blk_e (by decide) ?_))); (with_reducible refine blk_y ?_); (repeat (with_reducible refine then_n ?_))
  skip; (repeat (with_reducible refine wp_seq ?_)); refine wp_region_lit ?_
  (repeat (refine wl_run orcCh_ok 1 rfl fr fun a fr => ?_))
  refine wl_call fr rfl rfl rfl rfl enBegin (begin_call (ps := ps) hR hW hmp (fun p hp => by cases hp) (Nat.zero_le _) (fun p hp => by cases hp) (LogI.start.b (Nat.zero_le _)) S) ?_
  obtain ⟨hadd1, L1⟩ := LogI.start.add (r := beginR 1) (by decide) (by omega)
  rintro _ w4 (⟨hno, rfl, S⟩ | ⟨-, h2, -⟩ | ⟨-, -, h3, -⟩ | ⟨hok, -, -, A4, c4, bn, rfl, hv4, hGI, S⟩)
  · refine ⟨_, rfl, rfl, fun a fr => ?_⟩
    (repeat (refine wl_run orcCh_ok 1 rfl fr fun a fr => ?_))
    refine wpList_nil ?_; (repeat (with_reducible refine then_n ?_))
    skip; (repeat (with_reducible refine wp_seq ?_)); refine wp_region_lit ?_
    (repeat (refine wl_run orcCh_ok 1 rfl fr fun a fr => ?_))
    refine wpList_nil ?_; (repeat (with_reducible refine then_n ?_))
    skip; (repeat (with_reducible refine wp_seq ?_))
    refine cw_t fr rfl ?_
    skip; (repeat (with_reducible refine wp_seq ?_)); refine wp_region_lit ?_
    (repeat (refine wl_run orcCh_ok 1 rfl fr fun a fr => ?_))
    refine wl_call fr rfl rfl rfl rfl enLives (lives_call (Sat.past S)) ?_
    rintro _ w5 ⟨rfl, S⟩
    refine ⟨_, rfl, rfl, fun a fr => ?_⟩
    (repeat (refine wl_run orcCh_ok 1 rfl fr fun a fr => ?_))
    refine wpList_nil ?_; (repeat (with_reducible refine then_n ?_))
    refine wp_ret ?_
    skip; (repeat (first | (with_reducible refine then_r ?_) | (with_reducible refine blk_r ?_) | (with_reducible refine ng_r ?_)))
    exact ret1 fr rfl rfl ⟨rfl, S⟩
  · exact absurd h2 (by decide)
  · have h3 : (addEI D0 0 (beginR 1) != 0) = true := h3
    rw [hadd1] at h3
    exact absurd h3 (by decide)
  refine ⟨.tuple #[.int .u32 1, .slice A4 ps.length ps.length, .int .i64 0], rfl, hv4, fun a fr => ?_⟩
  (repeat (refine wl_run orcCh_ok 1 rfl fr fun a fr => ?_))
  refine wpList_nil ?_; (repeat (with_reducible refine then_n ?_))
  have S := S.tl
  obtain ⟨x1, hx1⟩ : ∃ z, z = addXI D0 0 (beginR 1) := ⟨_, rfl⟩
  obtain ⟨D1, hD1⟩ : ∃ z, z = (addDI D0 0 (beginR 1)).sync := ⟨_, rfl⟩
  have L1 := L1.sync
  rw [← hx1, ← hD1] at L1
  obtain ⟨L, hL⟩ : ∃ L, L = ps.map (·.1) := ⟨_, rfl⟩
  have hL7 : L ∈ seven := by
    have := plan_seven hok
    rw [List.map_map] at this
    rw [hL]; exact this
  have hLl : L.length = ps.length := by rw [hL, List.length_map]
  have hwr : IntKind.wrap .i64 ((i : Int) + 8) = (i : Int) + 8 := wrap_small (by omega)
  rw [← hL] at S hGI
  have S : Sat w w4 (chW b bl bm 1 bk bw (i : Int) d [(bn, newG zV 1 L)] [(1, (i : Int) + 8)] x1 D1 []) := by rw [hx1, hD1, ← hwr]; exact S
  have hC1 : ss0 [(bn, newG zV 1 L)] [(1, (i : Int) + 8)] x1 D1 = ⟨[gV L 0], [(1, (i : Int) + 8)], x1, D1⟩ := rfl
  have hI1 : ∀ p ∈ [(bn, newG zV 1 L)], GlI p.2 := fun p hp => by
    have : p = (bn, newG zV 1 L) := by simpa using hp
    rw [this]; exact hGI
  generalize [(bn, newG zV 1 L)] = gs1 at S hC1 hI1
  have hps : 0 < ps.length := by
    have := (plan_ok hok).2.2
    rw [List.length_map] at this
    exact this
  skip; (repeat (with_reducible refine wp_seq ?_)); refine wp_region_lit ?_
  (repeat (refine wl_run orcCh_ok 1 rfl fr fun a fr => ?_))
  refine wpList_nil ?_; (repeat (with_reducible refine then_n ?_))
  skip; (repeat (with_reducible refine wp_seq ?_))
  refine cw_f fr rfl ?_
  refine wp_skip ?_
  (with_reducible refine then_n ?_)
  have htm2 : a2.tmod (ps.length : Int) = a2 % (ps.length : Int) := Int.tmod_eq_emod_of_nonneg ha2.1
  obtain ⟨n, hn, hn2⟩ : ∃ n : Nat, a2.tmod (ps.length : Int) = n ∧ n < ps.length := by
    have h1 := Int.emod_nonneg a2 (show (ps.length : Int) ≠ 0 by omega)
    have h2 := Int.emod_lt_of_pos a2 (show (0 : Int) < ps.length by omega)
    exact ⟨(a2.tmod (ps.length : Int)).toNat, by omega, by omega⟩
  skip; (repeat (with_reducible refine wp_seq ?_)); refine wp_region_lit ?_
  (repeat (refine wl_run orcCh_ok 1 rfl fr fun a fr => ?_))
  refine wl_pv orcCh_ok fr rfl rfl rfl (po_rem (q := (ps.length : Int)) rfl rfl rfl (by omega)) fun a fr => ?_
  have fr := fr.spell (d := 63) rfl (show Value.int .i64 ((IntKind.wrap .i64 a2).tmod (ps.length : Int)) = .int .i64 (n : Int) by rw [hwa2, hn])
  (repeat (refine wl_run orcCh_ok 1 rfl fr fun a fr => ?_))
  refine wpList_nil ?_; (repeat (with_reducible refine then_n ?_))
  skip; (repeat (with_reducible refine wp_seq ?_)); refine wp_region_lit ?_
  (repeat (refine wl_run orcCh_ok 1 rfl fr fun a fr => ?_))
  refine wpList_nil ?_; (repeat (with_reducible refine then_n ?_))
  have hlen3 : ps.length ≤ 3 := by have := plan_few hok; rwa [List.length_map] at this
  skip; (repeat (with_reducible refine wp_seq ?_))
  refine wp_block ?_
  refine cw_loop (fun r a w2 => ∃ (j : Nat) (gs : Gs), j + r = n + 1 ∧ j ≤ n ∧ ss0 gs [(1, (i : Int) + 8)] x1 D1 = ⟨[gV L j], [(1, (i : Int) + 8)], x1, D1⟩ ∧ (∀ p ∈ gs, GlI p.2) ∧ Fr 179 a [(0, .slice Ap ps.length cp), (8, .pointer (some ⟨b, 0, none⟩)), (10, .int .u32 1), (13, .int .i64 (n : Int)), (14, .int .i64 (j : Int))] ∧ Sat w w2 (chW b bl bm 1 bk bw (i : Int) d gs [(1, (i : Int) + 8)] x1 D1 [])) (n + 1)
    ⟨0, gs1, by omega, by omega, hC1, hI1, fr.sub ⟨rfl, rfl, rfl, rfl, rfl, trivial⟩, S⟩ ?_ ?_
  · rintro a w2 ⟨j, _, h, h', -⟩
    omega
  clear fr S hC1 hI1
  rintro r2 a w5 ⟨j, gs2, hj, hj', hC2, hI2, fr, S⟩
  skip; (repeat (with_reducible refine wp_seq ?_)); refine wp_region_lit ?_
  (repeat (refine wl_run orcCh_ok 1 rfl fr fun a fr => ?_))
  refine wpList_nil ?_; (repeat (with_reducible refine then_n ?_))
  by_cases hjn : j < n
  · have fr := fr.bool (d := 66) rfl (decide_eq_true (show (j : Int) < (n : Int) by omega))
    skip; (repeat (with_reducible refine wp_seq ?_))
    refine cw_t fr rfl ?_
    refine wp_skip ?_
    (with_reducible refine then_n ?_)
    have hjl : j < ps.length := by omega
    have hrd := hR _ (Sat.past S)
    obtain ⟨ad, hA⟩ := hrd.some hjl
    have hcell := hrd.cell j hjl ad hA
    have hLj : L.getD j 0 = ps[j].1 := by
      rw [hL, List.getD_eq_getElem?_getD, List.getElem?_eq_getElem (by rw [List.length_map]; exact hjl), List.getElem_map]
      rfl
    have hkj := hW.k _ (List.getElem_mem hjl)
    obtain ⟨s, hs⟩ : ∃ s, s = ps[j].1 := ⟨_, rfl⟩
    rw [← hs] at hLj hkj
    obtain ⟨hcS, hcO⟩ := came_yes hL7 (i := j) (by omega) [(1, (i : Int) + 8)] x1 D1
    rw [hLj] at hcS hcO
    skip; (repeat (with_reducible refine wp_seq ?_))
    refine wp_block ?_
    skip; (repeat (with_reducible refine wp_seq ?_)); refine wp_region_lit ?_
    (repeat (refine wl_run orcCh_ok 1 rfl fr fun a fr => ?_))
    refine wl_ixe orcCh_ok hA fr rfl rfl rfl rfl rfl rfl rfl rfl ⟨by omega, by omega⟩ fun a fr => ?_
    (repeat (refine wl_run orcCh_ok 1 rfl fr fun a fr => ?_))
    refine wl_ldf orcCh_ok (v := .int .u8 s) ⟨(show w5.cell? ((ad.add (j * 2)).add 0) = some (.int .u8 s) by rw [add_add]; exact hcell 0 _ (by rw [hs]; rfl)), hkj⟩ fr rfl rfl rfl rfl rfl rfl rfl fun a fr => ?_
    (repeat (refine wl_run orcCh_ok 1 rfl fr fun a fr => ?_))
    have hmv : (mgV 2 s 0 1 none 0 0 none 0 0).all vok1 = true := MgW.ok ⟨rfl, hkj, rfl, rfl, ⟨Nat.le_refl _, Nat.zero_le _⟩, ⟨Nat.le_refl _, Nat.zero_le _⟩⟩ none none
    refine wl_build (cs := mgV 2 s 0 1 none 0 0 none 0 0) (L2 := [(0, .int .u8 2), (1, .int .u8 s), (3, .int .u32 1)]) fr rfl rfl rfl rfl (by simp; exact ⟨rfl, (fr.ev (o := .tmp 75) rfl).1, (fr.ev (o := .tmp 76) rfl).1⟩) (by kernel_rfl) hmv fun a fr => ?_
    refine wl_call fr rfl rfl rfl rfl enCame (came_step ⟨[gV L (j + 1)], [(1, (i : Int) + 8)], x1, D1⟩ hC2 hcS hcO rfl hkj rfl hI2 (L1.b (by omega)) S) ?_
    rintro _ w6 ⟨A6, c6, gs3, rfl, hv6, hC3, hI3, -, S⟩
    have S := S.tl
    refine ⟨.tuple #[.slice A6 0 0, .int .i64 0], rfl, hv6, fun a fr => ?_⟩
    (repeat (refine wl_run orcCh_ok 1 rfl fr fun a fr => ?_))
    refine wpList_nil ?_; (repeat (with_reducible refine then_n ?_))
    skip; (repeat (with_reducible refine wp_seq ?_)); refine wp_region_lit ?_
    (repeat (refine wl_run orcCh_ok 1 rfl fr fun a fr => ?_))
    refine wpList_nil ?_; (repeat (with_reducible refine then_n ?_))
    skip; (repeat (with_reducible refine wp_seq ?_))
    refine cw_f fr rfl ?_
    refine wp_skip ?_
    (repeat (first | (with_reducible refine then_n ?_) | (with_reducible refine blk_n ?_)))
    skip; (repeat (with_reducible refine wp_seq ?_)); refine wp_region_lit ?_
    (repeat (refine wl_run orcCh_ok 1 rfl fr fun a fr => ?_))
    refine wpList_nil ?_; (repeat (with_reducible refine then_n ?_))
    have fr := fr.spell (d := 14) rfl (congrArg (Value.int .i64) (i64_next hjn (by omega)))
    exact ⟨j + 1, gs3, by omega, by omega, hC3, hI3, fr.sub ⟨rfl, rfl, rfl, rfl, rfl, trivial⟩, S⟩
  have fr := fr.bool (d := 66) rfl (decide_eq_false (show ¬ (j : Int) < (n : Int) by omega))
  obtain rfl : j = n := by omega
  skip; (repeat (with_reducible refine wp_seq ?_))
  refine cw_f fr rfl ?_
  refine wp_exit ?_
  skip; (repeat (first | (with_reducible refine then_e ?_) | (with_reducible refine ng_e ?_) | (with_reducible refine blk_e (by decide) ?_))); (with_reducible refine blk_y ?_); (repeat (with_reducible refine then_n ?_))
  skip; (repeat (with_reducible refine wp_seq ?_)); refine wp_region_lit ?_
  (repeat (refine wl_run orcCh_ok 1 rfl fr fun a fr => ?_))
  refine wpList_nil ?_; (repeat (with_reducible refine then_n ?_))
  obtain ⟨g1, g2, g3, g4⟩ := gV_is hL7 (i := j) (by omega)
  obtain ⟨G, hG⟩ : ∃ G, G = gV L j := ⟨_, rfl⟩
  rw [← hG] at hC2 g1 g2 g3 g4
  skip; (repeat (with_reducible refine wp_seq ?_))
  refine wp_block ?_
  refine cw_loop (fun r a w2 => ∃ (t : Nat) (gs : Gs), t + r = 9 ∧ 1 ≤ t ∧ t ≤ 8 ∧ ss0 gs [(1, (i : Int) + 8)] x1 D1 = ⟨[G], [(1, (i : Int) + 8)], x1, D1⟩ ∧ (∀ p ∈ gs, GlI p.2) ∧ Fr 179 a [(0, .slice Ap ps.length cp), (8, .pointer (some ⟨b, 0, none⟩)), (10, .int .u32 1), (17, .int .i64 (t : Int))] ∧ Sat w w2 (chW b bl bm 1 bk bw ((i : Int) + (t : Int) - 1) d gs [(1, (i : Int) + 8)] x1 D1 [])) 8
    ⟨1, gs2, by omega, by omega, by omega, hC2, hI2, fr.sub ⟨rfl, rfl, rfl, rfl, trivial⟩, by rw [show (i : Int) + ((1 : Nat) : Int) - 1 = i by omega]; exact S⟩ ?_ ?_
  · rintro a w2 ⟨t, _, h, h', h'', -⟩
    omega
  clear fr S hC2 hI2
  rintro r3 a w7 ⟨t, gs3, ht, ht1, ht8, hC3, hI3, fr, S⟩
  have hgl3 : gs3.length = 1 := by have := congrArg (fun C : Ss RsT => C.gs.length) hC3; simpa [ss0] using this
  skip; (repeat (with_reducible refine wp_seq ?_)); refine wp_region_lit ?_
  (repeat (refine wl_run orcCh_ok 1 rfl fr fun a fr => ?_))
  refine wpList_nil ?_; (repeat (with_reducible refine then_n ?_))
  by_cases htn : t < 8
  · have fr := fr.bool (d := 89) rfl (decide_eq_true (show (t : Int) < 8 by omega))
    skip; (repeat (with_reducible refine wp_seq ?_))
    refine cw_t fr rfl ?_
    refine wp_skip ?_
    (with_reducible refine then_n ?_)
    skip; (repeat (with_reducible refine wp_seq ?_))
    refine wp_block ?_
    skip; (repeat (with_reducible refine wp_seq ?_)); refine wp_region_lit ?_
    (repeat (refine wl_run orcCh_ok 1 rfl fr fun a fr => ?_))
    refine wl_call fr rfl rfl rfl rfl enTickC (tick_step (C' := ⟨[G], [(1, (i : Int) + 8)], x1, D1⟩) (os := []) (now' := (i : Int) + ((t + 1 : Nat) : Int) - 1) hC3 (by rw [wrap_small (by omega)]; omega) (by rw [tick_one g1 g2 _ _ _ _ (by omega), if_neg (by omega)]) hI3 (by show 1 ≤ 1000; omega) (by omega) S) ?_
    rintro _ w8 ⟨A8, c8, gs4, rfl, hv8, hC4, hI4, -, S⟩
    have S := S.tl
    refine ⟨.tuple #[.slice A8 0 0, .int .i64 0], rfl, hv8, fun a fr => ?_⟩
    (repeat (refine wl_run orcCh_ok 1 rfl fr fun a fr => ?_))
    refine wpList_nil ?_; (repeat (with_reducible refine then_n ?_))
    have hC4 : ss0 gs4 [(1, (i : Int) + 8)] x1 D1 = ⟨[G], [(1, (i : Int) + 8)], x1, D1⟩ := hC4
    skip; (repeat (with_reducible refine wp_seq ?_)); refine wp_region_lit ?_
    (repeat (refine wl_run orcCh_ok 1 rfl fr fun a fr => ?_))
    refine wl_call fr rfl rfl rfl rfl enPhase (phase_step (z := 1) (congrArg Ss.gs hC4) (by show phaseG [G] 1 = 1; unfold phaseG idxG; rw [if_pos g1]; exact g2) rfl S) ?_
    rintro _ w9 ⟨rfl, hv9, S⟩
    refine ⟨_, rfl, hv9, fun a fr => ?_⟩
    (repeat (refine wl_run orcCh_ok 1 rfl fr fun a fr => ?_))
    refine wpList_nil ?_; (repeat (with_reducible refine then_n ?_))
    skip; (repeat (with_reducible refine wp_seq ?_))
    refine cw_f fr rfl ?_
    refine wp_skip ?_
    (repeat (first | (with_reducible refine then_n ?_) | (with_reducible refine blk_n ?_)))
    skip; (repeat (with_reducible refine wp_seq ?_)); refine wp_region_lit ?_
    (repeat (refine wl_run orcCh_ok 1 rfl fr fun a fr => ?_))
    refine wpList_nil ?_; (repeat (with_reducible refine then_n ?_))
    have fr := fr.spell (d := 17) rfl (congrArg (Value.int .i64) (i64_next htn (by omega)))
    exact ⟨t + 1, gs4, by omega, by omega, by omega, hC4, hI4, fr.sub ⟨rfl, rfl, rfl, rfl, trivial⟩, S⟩
  have fr := fr.bool (d := 89) rfl (decide_eq_false (show ¬ (t : Int) < 8 by omega))
  obtain rfl : t = 8 := by omega
  skip; (repeat (with_reducible refine wp_seq ?_))
  refine cw_f fr rfl ?_
  refine wp_exit ?_
  skip; (repeat (first | (with_reducible refine then_e ?_) | (with_reducible refine ng_e ?_) | (with_reducible refine blk_e (by decide) ?_))); (with_reducible refine blk_y ?_); (repeat (with_reducible refine then_n ?_))
  skip; (repeat (with_reducible refine wp_seq ?_)); refine wp_region_lit ?_
  (repeat (refine wl_run orcCh_ok 1 rfl fr fun a fr => ?_))
  refine wl_call fr rfl rfl rfl rfl enTickC (tick_step (C' := ⟨[abortG G], [], x1, D1⟩) (os := toM 5 1 L) (now' := (i : Int) + 8) hC3 (by rw [wrap_small (by omega)]; omega) (by rw [tick_one g1 g2 _ _ _ _ (by omega), if_pos rfl, g4]) hI3 (by show 1 ≤ 1000; omega) (by omega) S) ?_
  rintro _ w8 ⟨A8, c8, gs4, rfl, hv8, hC4, hI4, -, S⟩
  have S := Sat.behind S
  have hml : (toM 5 1 L).length = ps.length := by rw [toM_len, hLl]
  refine ⟨.tuple #[.slice A8 ps.length ps.length, .int .i64 0], by rw [hml], by rw [← hml]; exact hv8, fun a fr => ?_⟩
  (repeat (refine wl_run orcCh_ok 1 rfl fr fun a fr => ?_))
  refine wpList_nil ?_; (repeat (with_reducible refine then_n ?_))
  have hC4 : ss0 gs4 [] x1 D1 = ⟨[abortG G], [], x1, D1⟩ := hC4
  have hph : phaseG [abortG G] 1 = 4 := by unfold phaseG idxG; rw [if_pos (show (abortG G).g = 1 from g1)]; rfl
  have htold : toldG [abortG G] 1 = (false, [], 0) := by unfold toldG idxG; rw [if_pos (show (abortG G).g = 1 from g1)]; rfl
  skip; (repeat (with_reducible refine wp_seq ?_)); refine wp_region_lit ?_
  (repeat (refine wl_run orcCh_ok 1 rfl fr fun a fr => ?_))
  refine wl_call fr rfl rfl rfl rfl enTold (told_step (p := false) (ls := []) (z := 0) (congrArg Ss.gs hC4) htold rfl hI4 S) ?_
  rintro _ w9 ⟨A9, rfl, hv9, S⟩
  refine ⟨.tuple #[.bool false, .slice A9 0 0, .int .i64 0], rfl, hv9, fun a fr => ?_⟩
  (repeat (refine wl_run orcCh_ok 1 rfl fr fun a fr => ?_))
  refine wpList_nil ?_; (repeat (with_reducible refine then_n ?_))
  skip; (repeat (with_reducible refine wp_seq ?_)); refine wp_region_lit ?_
  (repeat (refine wl_run orcCh_ok 1 rfl fr fun a fr => ?_))
  have fr := fr.bool (d := 131) rfl (show ((ps.length : Int) != (ps.length : Int)) = false by simp)
  (repeat (refine wl_run orcCh_ok 1 rfl fr fun a fr => ?_))
  refine wl_call fr rfl rfl rfl rfl enPhase (phase_step (z := 4) (congrArg Ss.gs hC4) hph rfl S) ?_
  rintro _ w10 ⟨rfl, hv10, S⟩
  refine ⟨_, rfl, hv10, fun a fr => ?_⟩
  (repeat (refine wl_run orcCh_ok 1 rfl fr fun a fr => ?_))
  refine wpList_nil ?_; (repeat (with_reducible refine then_n ?_))
  skip; (repeat (with_reducible refine wp_seq ?_))
  refine cw_f fr rfl ?_
  refine wp_skip ?_
  (with_reducible refine then_n ?_)
  skip; (repeat (with_reducible refine wp_seq ?_)); refine wp_region_lit ?_
  (repeat (refine wl_run orcCh_ok 1 rfl fr fun a fr => ?_))
  refine wpList_nil ?_; (repeat (with_reducible refine then_n ?_))
  have S := Sat.past S
  have S : Sat w w10 [pmA A8 c8 (toM 5 1 L)] := S
  skip; (repeat (with_reducible refine wp_seq ?_))
  refine wp_block ?_
  refine cw_loop (fun r a w2 => ∃ (j : Nat), j + r = ps.length + 1 ∧ j ≤ ps.length ∧ Fr 179 a [(0, .slice Ap ps.length cp), (10, .int .u32 1), (20, .slice A8 ps.length ps.length), (25, .int .i64 (j : Int))] ∧ Sat w w2 [pmA A8 c8 (toM 5 1 L)]) (ps.length + 1)
    ⟨0, by omega, by omega, fr.sub ⟨rfl, rfl, rfl, rfl, trivial⟩, S⟩ ?_ ?_
  · rintro a w2 ⟨j, h, h', -⟩
    omega
  clear fr S
  rintro r4 a w11 ⟨k, hk, hk', fr, S⟩
  skip; (repeat (with_reducible refine wp_seq ?_)); refine wp_region_lit ?_
  (repeat (refine wl_run orcCh_ok 1 rfl fr fun a fr => ?_))
  refine wpList_nil ?_; (repeat (with_reducible refine then_n ?_))
  by_cases hkn : k < ps.length
  · have fr := fr.bool (d := 147) rfl (decide_eq_true (show (k : Int) < (ps.length : Int) by omega))
    skip; (repeat (with_reducible refine wp_seq ?_))
    refine cw_t fr rfl ?_
    refine wp_skip ?_
    (with_reducible refine then_n ?_)
    have hkL : k < L.length := by omega
    have hpc : ∀ w', Sat w w' [pmA A8 c8 (toM 5 1 L)] → ∃ ad, A8 = some ad ∧ ∀ j u, (pmV (5, L[k], 1))[j]? = some u → w'.cell? (ad.add (k * 6 + j)) = some u := fun w' S' => by
      have := pm_cell (i := k) S' 0 rfl (by rw [toM_len]; exact hkL)
      have e1 : (toM 5 1 L)[k]'(by rw [toM_len]; exact hkL) = (5, L[k], 1) := by
        unfold toM
        rw [List.getElem_map]
      rw [e1] at this
      exact this
    obtain ⟨ad, hA⟩ := (hR _ (Sat.lastsT [_] S)).some hkn
    have hcell : ∀ w', Sat w w' [pmA A8 c8 (toM 5 1 L)] → ∀ j u, (pcV ps[k])[j]? = some u → w'.cell? (ad.add (k * 2 + j)) = some u := fun w' S' => (hR _ (Sat.lastsT [_] S')).cell k hkn ad hA
    have hLk : L[k] = ps[k].1 := by
      have : L[k]? = some ps[k].1 := by rw [hL, List.getElem?_map, List.getElem?_eq_getElem hkn]; rfl
      rw [List.getElem?_eq_getElem hkL] at this
      injection this
    have hks := hW.k _ (List.getElem_mem hkn)
    obtain ⟨ad8, hA8, -⟩ := hpc _ S
    have hpc : ∀ w', Sat w w' [pmA A8 c8 (toM 5 1 L)] → ∀ j u, (pmV (5, L[k], 1))[j]? = some u → w'.cell? (ad8.add (k * 6 + j)) = some u := fun w' S' => by
      obtain ⟨ad', hA', h⟩ := hpc w' S'
      rw [hA8] at hA'
      injection hA' with hA'
      subst hA'
      exact h
    obtain ⟨s, hs⟩ : ∃ s, s = ps[k].1 := ⟨_, rfl⟩
    rw [hLk, ← hs] at hpc
    rw [← hs] at hks
    skip; (repeat (with_reducible refine wp_seq ?_))
    refine wp_block ?_
    skip; (repeat (with_reducible refine wp_seq ?_))
    refine wp_region_sl [.one (0, true, some 150), .one (1, true, some 151), .one (2, true, some 152), .one (3, true, some 153), .one (4, true, some 154), .one (5, true, some 155), .one (6, true, some 156), .one (7, true, some 157), .one (8, true, some 158), .one (9, true, some 159), .one (10, true, some 160), .one (11, true, some 161), .one (12, true, some 162), .one (13, true, some 163), .one (14, true, some 164), .one (15, true, some 165), .one (16, true, some 166), .one (17, true, some 167), .one (18, true, some 168), .one (19, true, some 169), .one (20, true, some 170), .one (21, true, some 171), .one (22, true, some 172), .one (23, true, some 173), .one (24, true, some 174), .one (25, true, some 175), .one (26, true, some 176), .one (27, true, some 177)]
                [.one ⟨true, some 150, (Go.Op.move (Go.Operand.tmp 20)), 27, none⟩,
                .one ⟨true, some 151, (Go.Op.move (Go.Operand.tmp 25)), 3, none⟩,
                .one ⟨true, some 152, (Go.Op.indexAddr 27 (Go.Operand.tmp 150) (Go.Operand.tmp 151)), 0, none⟩,
                .one ⟨true, some 153, (Go.Op.fieldAddr 42 (Go.Operand.tmp 152) 0), 0, none⟩,
                .one ⟨true, some 154, (Go.Op.load 36 (Go.Operand.tmp 153)), 36, none⟩,
                .one ⟨true, some 155, (Go.Op.binOp Go.BinOp.neq 36 (Go.Operand.tmp 154) (Go.Operand.const (Go.Value.int Go.IntKind.u8 5)) 36), 4, none⟩,
                .one ⟨true, some 156, (Go.Op.move (Go.Operand.tmp 155)), 4, none⟩,
                .one ⟨true, some 157, (Go.Op.move (Go.Operand.tmp 20)), 27, some (156, false)⟩,
                .one ⟨true, some 158, (Go.Op.move (Go.Operand.tmp 25)), 3, some (156, false)⟩,
                .one ⟨true, some 159, (Go.Op.indexAddr 27 (Go.Operand.tmp 157) (Go.Operand.tmp 158)), 0, some (156, false)⟩,
                .one ⟨true, some 160, (Go.Op.fieldAddr 42 (Go.Operand.tmp 159) 2), 0, some (156, false)⟩,
                .one ⟨true, some 161, (Go.Op.load 5 (Go.Operand.tmp 160)), 5, some (156, false)⟩,
                .one ⟨true, some 162, (Go.Op.move (Go.Operand.tmp 0)), 22, some (156, false)⟩,
                .one ⟨true, some 163, (Go.Op.move (Go.Operand.tmp 25)), 3, some (156, false)⟩,
                .one ⟨true, some 164, (Go.Op.indexAddr 22 (Go.Operand.tmp 162) (Go.Operand.tmp 163)), 0, some (156, false)⟩,
                .one ⟨true, some 165, (Go.Op.fieldAddr 39 (Go.Operand.tmp 164) 0), 0, some (156, false)⟩,
                .one ⟨true, some 166, (Go.Op.load 5 (Go.Operand.tmp 165)), 5, some (156, false)⟩,
                .one ⟨true, some 167, (Go.Op.binOp Go.BinOp.neq 5 (Go.Operand.tmp 161) (Go.Operand.tmp 166) 5), 4, some (156, false)⟩,
                .one ⟨true, some 168, (Go.Op.pick (Go.Operand.tmp 156) (Go.Operand.const (Go.Value.bool true)) (Go.Operand.tmp 167)), 4, none⟩,
                .one ⟨true, some 169, (Go.Op.move (Go.Operand.tmp 168)), 4, none⟩,
                .one ⟨true, some 170, (Go.Op.move (Go.Operand.tmp 20)), 27, some (169, false)⟩,
                .one ⟨true, some 171, (Go.Op.move (Go.Operand.tmp 25)), 3, some (169, false)⟩,
                .one ⟨true, some 172, (Go.Op.indexAddr 27 (Go.Operand.tmp 170) (Go.Operand.tmp 171)), 0, some (169, false)⟩,
                .one ⟨true, some 173, (Go.Op.fieldAddr 42 (Go.Operand.tmp 172) 3), 0, some (169, false)⟩,
                .one ⟨true, some 174, (Go.Op.load 31 (Go.Operand.tmp 173)), 31, some (169, false)⟩,
                .one ⟨true, some 175, (Go.Op.move (Go.Operand.tmp 10)), 31, some (169, false)⟩,
                .one ⟨true, some 176, (Go.Op.binOp Go.BinOp.neq 31 (Go.Operand.tmp 174) (Go.Operand.tmp 175) 31), 4, some (169, false)⟩,
                .one ⟨true, some 177, (Go.Op.pick (Go.Operand.tmp 169) (Go.Operand.const (Go.Value.bool true)) (Go.Operand.tmp 176)), 4, none⟩]
                (fun v => Sat w v [pmA A8 c8 (toM 5 1 L)]) rfl (by kernel_rfl) (by kernel_rfl) ?_ ?_
    · exact S.drew
    have S := S.drew
    have hS : Sat w _ [pmA A8 c8 (toM 5 1 L)] := S
    (repeat (refine sl_run orcCh_ok 1 rfl fr fun a fr => ?_))
    refine sl_ixe orcCh_ok hA8 fr rfl rfl rfl rfl rfl rfl rfl rfl rfl ⟨by omega, by omega⟩ fun a fr => ?_
    (repeat (refine sl_run orcCh_ok 1 rfl fr fun a fr => ?_))
    refine sl_ldf orcCh_ok (v := .int .u8 5) (fun w' S' => ⟨(show w'.cell? ((ad8.add (k * 6)).add 0) = some (.int .u8 5) by rw [add_add]; exact hpc w' S' 0 _ rfl), rfl⟩) fr rfl rfl rfl rfl rfl rfl rfl rfl hS fun a fr => ?_
    (repeat (refine sl_run orcCh_ok 1 rfl fr fun a fr => ?_))
    refine sl_ixe orcCh_ok hA8 fr rfl rfl rfl rfl rfl rfl rfl rfl rfl ⟨by omega, by omega⟩ fun a fr => ?_
    (repeat (refine sl_run orcCh_ok 1 rfl fr fun a fr => ?_))
    refine sl_ldf orcCh_ok (v := .int .u8 s) (fun w' S' => ⟨(show w'.cell? ((ad8.add (k * 6)).add 2) = some (.int .u8 s) by rw [add_add]; exact hpc w' S' 2 _ rfl), hks⟩) fr rfl rfl rfl rfl rfl rfl rfl rfl hS fun a fr => ?_
    (repeat (refine sl_run orcCh_ok 1 rfl fr fun a fr => ?_))
    refine sl_ixe orcCh_ok hA fr rfl rfl rfl rfl rfl rfl rfl rfl rfl ⟨by omega, by omega⟩ fun a fr => ?_
    (repeat (refine sl_run orcCh_ok 1 rfl fr fun a fr => ?_))
    refine sl_ldf orcCh_ok (v := .int .u8 s) (fun w' S' => ⟨(show w'.cell? ((ad.add (k * 2)).add 0) = some (.int .u8 s) by rw [add_add]; exact hcell w' S' 0 _ (by rw [hs]; rfl)), hks⟩) fr rfl rfl rfl rfl rfl rfl rfl rfl hS fun a fr => ?_
    (repeat (refine sl_run orcCh_ok 1 rfl fr fun a fr => ?_))
    have fr := fr.bool (d := 169) rfl (show (s != s) = false by simp)
    (repeat (refine sl_run orcCh_ok 1 rfl fr fun a fr => ?_))
    refine sl_ixe orcCh_ok hA8 fr rfl rfl rfl rfl rfl rfl rfl rfl rfl ⟨by omega, by omega⟩ fun a fr => ?_
    (repeat (refine sl_run orcCh_ok 1 rfl fr fun a fr => ?_))
    refine sl_ldf orcCh_ok (v := .int .u32 1) (fun w' S' => ⟨(show w'.cell? ((ad8.add (k * 6)).add 3) = some (.int .u32 1) by rw [add_add]; exact hpc w' S' 3 _ rfl), rfl⟩) fr rfl rfl rfl rfl rfl rfl rfl rfl hS fun a fr => ?_
    (repeat (refine sl_run orcCh_ok 1 rfl fr fun a fr => ?_))
    refine sl_end ?_
    (repeat (with_reducible refine then_n ?_))
    skip; (repeat (with_reducible refine wp_seq ?_))
    refine cw_f fr rfl ?_
    refine wp_skip ?_
    (repeat (first | (with_reducible refine then_n ?_) | (with_reducible refine blk_n ?_)))
    skip; (repeat (with_reducible refine wp_seq ?_)); refine wp_region_lit ?_
    (repeat (refine wl_run orcCh_ok 1 rfl fr fun a fr => ?_))
    refine wpList_nil ?_; (repeat (with_reducible refine then_n ?_))
    have fr := fr.spell (d := 25) rfl (congrArg (Value.int .i64) (i64_next hkn (by omega)))
    exact ⟨k + 1, by omega, by omega, fr.sub ⟨rfl, rfl, rfl, rfl, trivial⟩, S⟩
  have fr := fr.bool (d := 147) rfl (decide_eq_false (show ¬ (k : Int) < (ps.length : Int) by omega))
  skip; (repeat (with_reducible refine wp_seq ?_))
  refine cw_f fr rfl ?_
  refine wp_exit ?_
  skip; (repeat (first | (with_reducible refine then_e ?_) | (with_reducible refine ng_e ?_) | (with_reducible refine blk_e (by decide) ?_))); (with_reducible refine blk_y ?_); (repeat (with_reducible refine then_n ?_))
  skip; (repeat (with_reducible refine wp_seq ?_)); refine wp_region_lit ?_
  (repeat (refine wl_run orcCh_ok 1 rfl fr fun a fr => ?_))
  refine wl_call fr rfl rfl rfl rfl enLives (lives_call S.tl) ?_
  rintro _ w12 ⟨rfl, S⟩
  refine ⟨_, rfl, rfl, fun a fr => ?_⟩
  (repeat (refine wl_run orcCh_ok 1 rfl fr fun a fr => ?_))
  refine wpList_nil ?_; (repeat (with_reducible refine then_n ?_))
  refine wp_ret ?_
  skip; (repeat (first | (with_reducible refine then_r ?_) | (with_reducible refine blk_r ?_) | (with_reducible refine ng_r ?_)))
  exact ret1 fr rfl rfl ⟨rfl, S⟩
end Go.Proofs.YticnjkdaccacaaaGreat.Sx
namespace Go.Proofs.YticnjkdaccacaaaGreat.Pl
open Go Go.RowKit Base Sx
theorem ChiefsPatience_law (A0 : Option Addr) (c0 : Nat) (l0 : List PartT) (a1 a2 : Int) (W : World) (hc0 : l0.length ≤ c0) (hm0 : c0 ≤ maxLen) (g0 : Rdr.Row partR W A0 l0) {s : List PartT → Prop} (_ : s l0) (w1 : (Lit.int .u8 a1).wf = true) (w2 : (Lit.int .u8 a2).wf = true) : Calls Tryz.prog 3 #[.slice A0 l0.length c0, .int .u8 a1, .int .u8 a2] W fun e w' => e = .returned (.bool true) ∧ Below W.heap.size W w' := by
  obtain ⟨ps, rfl, hW, hR⟩ := parts_of g0
  rw [List.length_map] at hc0 ⊢
  exact (patience_call (fun w' S => hR.below S.below) hW ⟨hc0, hm0⟩ w1 w2).mono fun e w' ⟨h1, h2⟩ => ⟨h1, h2.below⟩
end Go.Proofs.YticnjkdaccacaaaGreat.Pl
end
section
namespace Go.Proofs.YticnjkdaccacaaaGreat.chiefsPatience
open Go.ChangeShapes Go.WideShapes Go.ChangeAt Go.RowKit Base
open Go.ChangeMaps (open_string shut_string)
theorem own : ownKnob Tryz.prog.godebug = none := by kernel_rfl
theorem laidOut : laidOutB Tryz.prog = true := by kernel_rfl
set_option maxRecDepth 100000 in
theorem lifted (os : Os) (started : os.Started) (H : Type) (enc : TypeId × Value → H) :
    ReturnsInHanded {} Tryz.checked os 3 .any (Rows.chiefsPatienceSpec.pre6 enc Tryz.prog Tryz.f3 Rows.chiefsPatienceRow.domain false) (Rows.chiefsPatienceSpec.post enc Tryz.prog Tryz.f3 false true false false) := by
  refine returnsInHanded_of_change_sized (C := Tryz.checked) own started (by kernel_rfl) Tryz.func3
    (ChangeSpec.witness6 (enc := enc) (C := Tryz.checked) false ⟨#[], #[.slice none 0 0, .int .u8 0, .int .u8 0], []⟩ 8 (by kernel_rfl) (by kernel_rfl) (by kernel_rfl) (by kernel_rfl)) ?_
  intro W base args ds gs before hval0 hW hcnd hsz0 _
  have hsz : (DataW.weightsEach Tryz.prog (Tryz.f3.params.toList ++ Rows.chiefsPatienceSpec.plain.varTypes Tryz.prog) (ds ++ gs)).all (· ≤ reachBytes) = true := hsz0
  have hval : ∀ (j : Nat) t v, Tryz.f3.params[j]? = some t → args[j]? = some v → Value.okWide Tryz.prog W .any base t v := hval0
  have hW' := hW
  obtain ⟨p, q, hA0, hV, rfl, hfz, hnd⟩ := hW
  have hA : DataW.TrodAll enc Tryz.prog W 0 (fun _ => true) true Tryz.f3.params.toList args.toList ds p := hA0
  rw [Tryz.params3] at hA hval hsz
  obtain ⟨v0, vs0, d0, ds0, p0, q0, hargs, rfl, rfl, h0, r0⟩ := trodAll_cons hA
  obtain ⟨v1, vs1, d1, ds1, p1, q1, rfl, rfl, rfl, h1, r1⟩ := trodAll_cons r0
  obtain ⟨v2, vs2, d2, ds2, p2, q2, rfl, rfl, rfl, h2, r2⟩ := trodAll_cons r1
  obtain ⟨rfl, rfl, rfl⟩ := trodAll_nil r2
  obtain rfl : args = #[v0, v1, v2] := by cases args; simp_all
  obtain ⟨rfl, rfl⟩ := trodVars_none hV
  obtain ⟨a0, len0, cap0, rfl⟩ := okWide_slice Tryz.underlying22 (hval 0 22 v0 rfl rfl)
  have k0 := h0
  have lt0 : ∀ x ∈ p0, x.block < W.heap.size := by obtain ⟨m, hm⟩ := k0; exact DataW.trod_lt m _ _ _ hm
  obtain ⟨l0, rfl, c0, m0, g0, z0⟩ := Rdr.ofS_slice_arg (r := (Rdr.pair (Rdr.int .u8) (Rdr.pair (Rdr.sl (Rdr.pair (Rdr.int .u8) (Rdr.pair Rdr.str (Rdr.pair Rdr.str (Rdr.pair (Rdr.int .u32) Rdr.unit))))) Rdr.unit))) hsz (j := 0) (t := 22) rfl rfl (Rdr.ofS_sl Tryz.underlying22 (by kernel_rfl) (Rdr.ofS_st Tryz.underlying39 (by kernel_rfl) (Rdr.ofFS_cons rfl (Rdr.ofS (Rdr.of_int Tryz.underlying5 (by kernel_rfl))) (Rdr.ofFS_cons rfl (Rdr.ofS_sl Tryz.underlying37 (by kernel_rfl) (Rdr.ofS_st Tryz.underlying104 (by kernel_rfl) (Rdr.ofFS_cons rfl (Rdr.ofS (Rdr.of_int Tryz.underlying102 (by kernel_rfl))) (Rdr.ofFS_cons rfl (Rdr.ofS (Rdr.of_str Tryz.underlying9 (by kernel_rfl))) (Rdr.ofFS_cons rfl (Rdr.ofS (Rdr.of_str Tryz.underlying9 (by kernel_rfl))) (Rdr.ofFS_cons rfl (Rdr.ofS (Rdr.of_int Tryz.underlying31 (by kernel_rfl))) (Rdr.ofFS_nil _)))))) (B := 48) (by kernel_rfl) (by decide)) (Rdr.ofFS_nil _)))) (B := 32) (by kernel_rfl) (by decide)) h0
  obtain ⟨a1, rfl, rfl, rfl, w1⟩ := open_int Tryz.underlying5 (hval 1 5 v1 rfl rfl) h1
  obtain ⟨a2, rfl, rfl, rfl, w2⟩ := open_int Tryz.underlying5 (hval 2 5 v2 rfl rfl) h2
  clear hA0 hval0 hsz0 hsz
  refine (Pl.ChiefsPatience_law a0 cap0 l0 a1 a2 W c0 m0 g0 z0 w1 w2).mono fun e W' ⟨he, bel⟩ => ?_
  subst he
  exact ⟨_, rfl, _, _, _, [], _, [], hW', trodAll_mk1 (shut_bool Tryz.underlying4 _), (trodAll_cons_mk (Below.trod laidOut (by kernel_rfl) (of_decide_eq_true (by kernel_rfl)) k0 bel lt0) (trodAll_cons_mk (shut_int Tryz.underlying5 w1) (trodAll_cons_mk (shut_int Tryz.underlying5 w2) trodAll_mk0))), rfl, bel.frame _, fun h => by cases h⟩
theorem over : Rows.chiefsPatienceRow.holds Tryz.pinned (OpenSpec.ofChange Rows.chiefsPatienceSpec) :=
  OpenClaim.holds_of_wide 3 Tryz.f3 rfl rfl rfl rfl rfl rfl rfl ⟨rfl, rfl, rfl, rfl, rfl⟩ rfl rfl rfl rfl rfl (by kernel_rfl) Tryz.func3 (by kernel_rfl)
    (of_decide_eq_true (by kernel_rfl)) (by unfold Func.isWrapper; first | (rw [if_pos (by decide +kernel)]; kernel_rfl) | (rw [if_neg (by decide +kernel)]; exact ⟨rfl, rfl⟩))
    (fun os started H enc _ => lifted os started H enc)
theorem proved : Rows.ChiefsPatienceSaid := over
end Go.Proofs.YticnjkdaccacaaaGreat.chiefsPatience
namespace Go.Proofs.YticnjkdaccacaaaGreat
theorem chiefsPatience_holds : Rows.ChiefsPatienceSaid := chiefsPatience.proved
#print axioms chiefsPatience_holds
end Go.Proofs.YticnjkdaccacaaaGreat
end
