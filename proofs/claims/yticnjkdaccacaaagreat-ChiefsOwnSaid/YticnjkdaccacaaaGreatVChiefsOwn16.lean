/- Texts of this work, one behind the other. -/
import Derived.Test.YticnjkdaccacaaaGreatVChiefsOwn15
import Derived.SizedLaws
import Derived.DeepKeys
import Derived.Laws.StructEq
section
namespace Go.Proofs.YticnjkdaccacaaaGreat.Sx
open Go Go.RowKit Base _root_.Go.Proofs.YticnjkdaccacaaaGreat.Own OwnV Disk
theorem rdraw_nil (w : World) : RdRaw w none [] := ⟨fun i hi => by simp at hi, fun r hr => (by cases hr), fun r hr => (by cases hr)⟩
theorem raww_nil : RawW [] := ⟨fun r hr => (by cases hr), fun r hr => (by cases hr)⟩
section
variable {w w0 : World} {R : List Asn}
theorem came_plain {s f g : Int} {b bl bm bk bw bd : Nat} {last now x : Int} {m : List (Int × Int)} {gs : Gs} {D : Dk} (hs : (Lit.int .u8 s).wf = true) (hf : (Lit.int .u8 f).wf = true) (hg : (Lit.int .u32 g).wf = true) (hI : ∀ p ∈ gs, GlI p.2) (hb : (0 ≤ x ∧ x ≤ 4096) ∧ D.waits.length ≤ 100000000) (S : Sat w0 w (chW b bl bm last bk bw now bd gs m x D R)) :
    Calls Tryz.prog 12 #[.pointer (some ⟨b, 0, none⟩), .agg (mgV s f 0 g none 0 0 none 0 0).toArray] w fun e w' => ∃ (A' : Option Addr) (c' : Nat) (gs' : Gs), e = .returned (.tuple #[.slice A' (cameO (ss0 gs m x D) s f 0 g []).1.length (cameO (ss0 gs m x D) s f 0 g []).1.length, .int .i64 (cameO (ss0 gs m x D) s f 0 g []).2]) ∧ vok (.tuple #[.slice A' (cameO (ss0 gs m x D) s f 0 g []).1.length (cameO (ss0 gs m x D) s f 0 g []).1.length, .int .i64 (cameO (ss0 gs m x D) s f 0 g []).2]) = true ∧
      (gs'.map fun p => gl0 p.2) = (cameS (ss0 gs m x D) s f 0 g []).gs ∧ (∀ p ∈ gs', GlI p.2) ∧ keysG gs' = keysG gs ∧ Sat w0 w' (pmA A' c' (cameO (ss0 gs m x D) s f 0 g []).1 :: chW b bl bm last bk bw now bd gs' (cameS (ss0 gs m x D) s f 0 g []).m (cameS (ss0 gs m x D) s f 0 g []).x (cameS (ss0 gs m x D) s f 0 g []).D R) :=
  came_call (rs := []) (Ao := none) (Ar := none) (no := 0) (co := 0) (cr := 0) (t := 0) ⟨hs, hf, rfl, hg, ⟨Nat.le_refl _, Nat.zero_le _⟩, ⟨Nat.le_refl _, Nat.zero_le _⟩⟩ (fun w' _ => rdraw_nil w') raww_nil (by show 0 * 24 ≤ _; omega) (fun r hr => by cases hr) ⟨by show 0 * 24 ≤ _; omega, fun r hr => by cases hr⟩ hI hb S
theorem came_step {s f g z : Int} {b bl bm bk bw bd : Nat} {last now x : Int} {m : List (Int × Int)} {gs : Gs} {D : Dk} {C : Ss RsT} {os : List PM} (C' : Ss RsT) (hC : ss0 gs m x D = C) (hS : cameS C s f 0 g [] = C') (hO : cameO C s f 0 g [] = (os, z)) (hs : (Lit.int .u8 s).wf = true) (hf : (Lit.int .u8 f).wf = true) (hg : (Lit.int .u32 g).wf = true) (hI : ∀ p ∈ gs, GlI p.2) (hb : (0 ≤ x ∧ x ≤ 4096) ∧ D.waits.length ≤ 100000000) (S : Sat w0 w (chW b bl bm last bk bw now bd gs m x D R)) :
    Calls Tryz.prog 12 #[.pointer (some ⟨b, 0, none⟩), .agg (mgV s f 0 g none 0 0 none 0 0).toArray] w fun e w' => ∃ (A' : Option Addr) (c' : Nat) (gs' : Gs), e = .returned (.tuple #[.slice A' os.length os.length, .int .i64 z]) ∧ vok (.tuple #[.slice A' os.length os.length, .int .i64 z]) = true ∧ ss0 gs' C'.m C'.x C'.D = C' ∧ (∀ p ∈ gs', GlI p.2) ∧ keysG gs' = keysG gs ∧ Sat w0 w' (pmA A' c' os :: chW b bl bm last bk bw now bd gs' C'.m C'.x C'.D R) := by
  refine (came_plain hs hf hg hI hb S).mono ?_
  rintro e w' ⟨A', c', gs', h1, h2, h3, h4, h5, S⟩
  rw [hC, hS] at h3 S
  rw [hC, hO] at h1 h2
  rw [hO] at S
  exact ⟨A', c', gs', h1, h2, by unfold ss0; rw [h3], h4, h5, S⟩
theorem told_step {g : Int} {p : Bool} {ls : List RsT} {z : Int} {b bl bm bk bw bd : Nat} {last now x : Int} {m : List (Int × Int)} {gs : Gs} {D : Dk} {l : List (Gl RsT)} (hC : (gs.map fun p => gl0 p.2) = l) (hT : toldG l g = (p, ls, z)) (hg : (Lit.int .u32 g).wf = true) (hI : ∀ p ∈ gs, GlI p.2) (S : Sat w0 w (chW b bl bm last bk bw now bd gs m x D R)) :
    Calls Tryz.prog 14 #[.pointer (some ⟨b, 0, none⟩), .int .u32 g] w fun e w' => ∃ (A : Option Addr), e = .returned (.tuple #[.bool p, .slice A ls.length ls.length, .int .i64 z]) ∧ vok (.tuple #[.bool p, .slice A ls.length ls.length, .int .i64 z]) = true ∧ Sat w0 w' (chW b bl bm last bk bw now bd gs m x D R) := by
  refine (told_call hg (fun p hp => (hI p hp).len) (fun p hp => (hI p hp).few) S).mono ?_
  rintro e w' ⟨A, c, h1, h2, S⟩
  rw [hC, hT] at h1 h2 S
  exact ⟨A, h1, h2, S.tl⟩
theorem phase_step {g z : Int} {b bl bm bk bw bd : Nat} {last now x : Int} {m : List (Int × Int)} {gs : Gs} {D : Dk} {l : List (Gl RsT)} (hC : (gs.map fun p => gl0 p.2) = l) (hT : phaseG l g = z) (hg : (Lit.int .u32 g).wf = true) (S : Sat w0 w (chW b bl bm last bk bw now bd gs m x D R)) :
    Calls Tryz.prog 13 #[.pointer (some ⟨b, 0, none⟩), .int .u32 g] w fun e w' => e = .returned (.int .u8 z) ∧ vok (.int .u8 z) = true ∧ Sat w0 w' (chW b bl bm last bk bw now bd gs m x D R) := by
  have e1 : phaseG (gs.map (·.2)) g = z := by
    rw [← hT, ← hC]
    unfold phaseG
    rw [idx0]
    cases hi : idxG (gs.map (·.2)) g with
    | none => rfl
    | some j =>
      simp only [Option.bind_some, List.getElem?_map]
      cases gs[j]? <;> rfl
  have h := phase_call hg S
  rw [e1] at h
  exact h
theorem chthere_nil : Calls Tryz.prog 22 #[.pointer none] w fun e w' => e = .returned (.bool false) ∧ w' = w := by
  refine calls_start (N := 12) [.pointer none] Tryz.func22 rfl rfl rfl (vok_c rfl rfl) fun a fr => ?_
  skip; (repeat (with_reducible refine wp_seq ?_)); refine wp_region_lit ?_
  (repeat (refine wl_run orcCh_ok 1 rfl fr fun a fr => ?_))
  refine wpList_nil ?_; (repeat (with_reducible refine then_n ?_))
  skip; (repeat (with_reducible refine wp_seq ?_)); refine wp_region_lit ?_
  (repeat (refine wl_run orcCh_ok 1 rfl fr fun a fr => ?_))
  refine wpList_nil ?_; (repeat (with_reducible refine then_n ?_))
  refine wp_ret ?_
  exact ret1 fr rfl rfl ⟨rfl, rfl⟩
set_option maxRecDepth 100000 in
theorem tick_nil : Calls Tryz.prog 9 #[.pointer none] w fun e w' => e = .returned (.tuple #[.slice none 0 0, .int .i64 2]) ∧ w' = w := by
  refine calls_start (N := 64) [.pointer none] Tryz.func9 rfl rfl rfl (vok_c rfl rfl) fun a fr => ?_
  skip; (repeat (with_reducible refine wp_seq ?_)); refine wp_region_lit ?_
  (repeat (refine wl_run orcCh_ok 1 rfl fr fun a fr => ?_))
  refine wpList_nil ?_; (repeat (with_reducible refine then_n ?_))
  skip; (repeat (with_reducible refine wp_seq ?_)); refine wp_region_lit ?_
  (repeat (refine wl_run orcCh_ok 1 rfl fr fun a fr => ?_))
  refine wl_call fr rfl rfl rfl rfl enChThere chthere_nil ?_
  rintro _ w1 ⟨rfl, rfl⟩
  refine ⟨_, rfl, rfl, fun a fr => ?_⟩
  (repeat (refine wl_run orcCh_ok 1 rfl fr fun a fr => ?_))
  refine wpList_nil ?_; (repeat (with_reducible refine then_n ?_))
  skip; (repeat (with_reducible refine wp_seq ?_))
  refine cw_t fr rfl ?_
  skip; (repeat (with_reducible refine wp_seq ?_)); refine wp_region_lit ?_
  (repeat (refine wl_run orcCh_ok 1 rfl fr fun a fr => ?_))
  refine wpList_nil ?_; (repeat (with_reducible refine then_n ?_))
  refine wp_ret ?_
  skip; (repeat (first | (with_reducible refine then_r ?_) | (with_reducible refine blk_r ?_) | (with_reducible refine ng_r ?_)))
  exact ret2 fr rfl rfl rfl ⟨rfl, rfl⟩
set_option maxRecDepth 100000 in
set_option maxHeartbeats 8000000 in
theorem lives_call (S : Sat w0 w R) : Calls Tryz.prog 11 #[] w fun e w' => e = .returned (.bool true) ∧ Sat w0 w' R := by
  refine calls_start (N := 168) [] Tryz.func11 rfl rfl rfl rfl fun a fr => ?_
  skip; (repeat (with_reducible refine wp_seq ?_)); refine wp_region_lit ?_
  (repeat (refine wl_run orcCh_ok 1 rfl fr fun a fr => ?_))
  refine wpList_nil ?_; (repeat (with_reducible refine then_n ?_))
  skip; (repeat (with_reducible refine wp_seq ?_)); refine wp_region_lit ?_
  (repeat (refine wl_run orcCh_ok 1 rfl fr fun a fr => ?_))
  refine wl_call fr rfl rfl rfl rfl enOpened (opened_call S) ?_
  rintro _ w1 ⟨d, b, bl, bm, bk, bw, rfl, S⟩
  refine ⟨_, rfl, rfl, fun a fr => ?_⟩
  (repeat (refine wl_run orcCh_ok 1 rfl fr fun a fr => ?_))
  refine wpList_nil ?_; (repeat (with_reducible refine then_n ?_))
  skip; (repeat (with_reducible refine wp_seq ?_)); refine wp_region_lit ?_
  (repeat (refine wl_run orcCh_ok 1 rfl fr fun a fr => ?_))
  refine wpList_nil ?_; (repeat (with_reducible refine then_n ?_))
  skip; (repeat (with_reducible refine wp_seq ?_))
  refine cw_f fr rfl ?_
  refine wp_skip ?_
  (with_reducible refine then_n ?_)
  have fr := fr.sub (L' := [(2, .pointer (some ⟨b, 0, none⟩))]) ⟨rfl, trivial⟩
  have hopv : (opV xaT).all vok1 = true := rfl
  skip; (repeat (with_reducible refine wp_seq ?_)); refine wp_region_lit ?_
  refine wl_build (cs := opV xaT) (L2 := [(0, .int .u8 2), (1, .string ⟨#[97]⟩), (3, .int .u32 5)]) fr rfl rfl rfl rfl (by simp [Act.eval]) (by kernel_rfl) hopv fun a fr => ?_
  refine wl_lit1 (cs := opV xaT) (z := 4) Tryz.underlying37 (by kernel_rfl) rfl fr rfl rfl rfl rfl rfl rfl hopv S ?_
  intro w2 Ao co S a fr
  (repeat (refine wl_run orcCh_ok 1 rfl fr fun a fr => ?_))
  refine wpList_nil ?_; (repeat (with_reducible refine then_n ?_))
  have hoq := (Sat.rvAt S 0 rfl).2.1
  have hsl : vok1 (.slice Ao 1 co) = true := vok_sl (A := Ao) hoq
  skip; (repeat (with_reducible refine wp_seq ?_)); refine wp_region_lit ?_
  (repeat (refine wl_run orcCh_ok 1 rfl fr fun a fr => ?_))
  refine wl_build (cs := [.int .u8 1, .slice Ao 1 co]) (L2 := [(0, .int .u8 1), (1, .slice Ao 1 co)]) fr rfl rfl rfl rfl (by simp; exact ⟨rfl, (fr.ev (o := .tmp 34) rfl).1⟩) (by kernel_rfl) (show [Value.int .u8 1, .slice Ao 1 co].all vok1 = true by simp only [List.all_cons, List.all_nil, Bool.and_true, Bool.and_eq_true]; exact ⟨rfl, hsl⟩) fun a fr => ?_
  (repeat (refine wl_run orcCh_ok 1 rfl fr fun a fr => ?_))
  refine wl_build (cs := [.int .u8 2, .slice Ao 1 co]) (L2 := [(0, .int .u8 2), (1, .slice Ao 1 co)]) fr rfl rfl rfl rfl (by simp; exact ⟨rfl, (fr.ev (o := .tmp 36) rfl).1⟩) (by kernel_rfl) (show [Value.int .u8 2, .slice Ao 1 co].all vok1 = true by simp only [List.all_cons, List.all_nil, Bool.and_true, Bool.and_eq_true]; exact ⟨rfl, hsl⟩) fun a fr => ?_
  refine wl_lit2 (u1 := .int .u8 1) (u2 := .slice Ao 1 co) (v1 := .int .u8 2) (v2 := .slice Ao 1 co) Tryz.underlying22 (by kernel_rfl) fr rfl rfl rfl rfl rfl rfl (by simp only [List.all_cons, List.all_nil, Bool.and_true, Bool.and_eq_true]; exact ⟨rfl, hsl, rfl, hsl⟩) S ?_
  intro w3 Ap S a fr
  have S := ((((((((S.frontAt 1 rfl).frontAt 1 rfl).frontAt 7 rfl).frontAt 7 rfl).frontAt 7 rfl).frontAt 7 rfl).frontAt 7 rfl).frontAt 7 rfl)
  have S : Sat w0 w3 (chW b bl bm 0 bk bw 0 d [] [] 0 D0 (rvA 39 2 Ap 2 2 [.int .u8 1, .slice Ao 1 co, .int .u8 2, .slice Ao 1 co] :: rvA 104 4 Ao co 1 (opV xaT) :: R)) := S
  have hparts : ∀ w', Sat w0 w' (rvA 39 2 Ap 2 2 [.int .u8 1, .slice Ao 1 co, .int .u8 2, .slice Ao 1 co] :: rvA 104 4 Ao co 1 (opV xaT) :: R) → RdParts w' Ap [(1, Ao, co, [xaT]), (2, Ao, co, [xaT])] := by
    intro w' S
    obtain ⟨q1, q2, q3, q4, q5⟩ := Sat.rvAt S 0 rfl
    have hro : RdOps w' Ao [xaT] := rd_ops S 1 rfl
    refine ⟨fun h => by have := q3 h; omega, fun i hi ad hA j u hu => ?_, fun p hp => ?_⟩
    · obtain ⟨g, rfl, hrg⟩ := q5 ad hA
      have := hrg _ u (el_get (f := pcV) (z := 2) (fun _ => rfl) [(1, Ao, co, [xaT]), (2, Ao, co, [xaT])] i j u hi hu)
      rw [Nat.zero_add] at this
      rw [addr0]; exact this
    · simp only [List.mem_cons, List.not_mem_nil, or_false] at hp
      rcases hp with rfl | rfl <;> exact hro
  have hpw : PartsW [(1, Ao, co, [xaT]), (2, Ao, co, [xaT])] := by
    have hx : ∀ x ∈ [xaT], OpW x := fun x hx => by
      have : x = xaT := by simpa using hx
      rw [this]
      exact ⟨rfl, by unfold maxLen; decide, Nat.zero_le _, rfl⟩
    refine ⟨fun p hp => ?_, fun p hp => ?_, fun p hp => ?_⟩ <;> (simp only [List.mem_cons, List.not_mem_nil, or_false] at hp; rcases hp with rfl | rfl)
    · rfl
    · rfl
    · exact hoq
    · exact hoq
    · exact hx
    · exact hx
  obtain ⟨hadd1, L1⟩ := LogI.start.add (r := beginR 1) (by decide) (by omega)
  refine wl_call fr rfl rfl rfl rfl enBegin (begin_call (ps := [(1, Ao, co, [xaT]), (2, Ao, co, [xaT])]) hparts hpw ⟨Nat.le_refl _, by unfold maxLen; decide⟩ (fun p hp => by cases hp) (Nat.zero_le _) (fun p hp => by cases hp) (LogI.start.b (Nat.zero_le _)) S) ?_
  rintro _ w4 (⟨h1, -⟩ | ⟨-, h2, -⟩ | ⟨-, -, h3, -⟩ | ⟨-, -, -, A4, c4, bn, rfl, hv4, hGI, S⟩)
  · exact absurd (liv0.symm.trans h1) (by decide)
  · exact absurd h2 (by decide)
  · have h3 : (addEI D0 0 (beginR 1) != 0) = true := h3
    rw [hadd1] at h3
    exact absurd h3 (by decide)
  refine ⟨.tuple #[.int .u32 1, .slice A4 2 2, .int .i64 0], rfl, hv4, fun a fr => ?_⟩
  (repeat (refine wl_run orcCh_ok 1 rfl fr fun a fr => ?_))
  refine wpList_nil ?_; (repeat (with_reducible refine then_n ?_))
  have S := Sat.behind S
  obtain ⟨x1, hx1⟩ : ∃ z, z = addXI D0 0 (beginR 1) := ⟨_, rfl⟩
  obtain ⟨D1, hD1⟩ : ∃ z, z = (addDI D0 0 (beginR 1)).sync := ⟨_, rfl⟩
  obtain ⟨R1, hR1⟩ : ∃ z, z = bmA 1 A4 c4 [(1, [xaT]), (2, [xaT])] :: rvA 39 2 Ap 2 2 [.int .u8 1, .slice Ao 1 co, .int .u8 2, .slice Ao 1 co] :: rvA 104 4 Ao co 1 (opV xaT) :: R := ⟨_, rfl⟩
  have L1 := L1.sync
  rw [← hx1, ← hD1] at L1
  have S : Sat w0 w4 (chW b bl bm 1 bk bw 0 d [(bn, newG zV 1 [1, 2])] [(1, 8)] x1 D1 R1) := by rw [hx1, hD1, hR1]; exact S
  have hC1 : ss0 [(bn, newG zV 1 [1, 2])] [(1, 8)] x1 D1 = ⟨[H1], [(1, 8)], x1, D1⟩ := rfl
  have hI1 : ∀ p ∈ [(bn, newG zV 1 [1, 2])], GlI p.2 := fun p hp => by
    have : p = (bn, newG zV 1 [1, 2]) := by simpa using hp
    rw [this]; exact hGI
  generalize [(bn, newG zV 1 [1, 2])] = gs1 at S hC1 hI1
  skip; (repeat (with_reducible refine wp_seq ?_)); refine wp_region_lit ?_
  (repeat (refine wl_run orcCh_ok 1 rfl fr fun a fr => ?_))
  refine wl_build (cs := mgV 2 1 0 1 none 0 0 none 0 0) (L2 := [(0, .int .u8 2), (1, .int .u8 1), (3, .int .u32 1)]) fr rfl rfl rfl rfl (by simp [Act.eval]) (by kernel_rfl) rfl fun a fr => ?_
  refine wl_call fr rfl rfl rfl rfl enCame (came_step ⟨[H2], [(1, 8)], x1, D1⟩ hC1 (liv1 _ _ _).1 (liv1 _ _ _).2 rfl rfl rfl hI1 (L1.b (by omega)) S) ?_
  rintro _ w5 ⟨A5, c5, gs2, rfl, hv5, hC2, hI2, -, S⟩
  have S := S.tl
  refine ⟨.tuple #[.slice A5 0 0, .int .i64 0], rfl, hv5, fun a fr => ?_⟩
  (repeat (refine wl_run orcCh_ok 1 rfl fr fun a fr => ?_))
  refine wpList_nil ?_; (repeat (with_reducible refine then_n ?_))
  have hC2 : ss0 gs2 [(1, 8)] x1 D1 = ⟨[H2], [(1, 8)], x1, D1⟩ := hC2
  skip; (repeat (with_reducible refine wp_seq ?_)); refine wp_region_lit ?_
  (repeat (refine wl_run orcCh_ok 1 rfl fr fun a fr => ?_))
  refine wl_call fr rfl rfl rfl rfl enTold (told_step (p := false) (ls := []) (z := 7) (congrArg Ss.gs hC2) rfl rfl hI2 S) ?_
  rintro _ w6 ⟨A6, rfl, hv6, S⟩
  refine ⟨.tuple #[.bool false, .slice A6 0 0, .int .i64 7], rfl, hv6, fun a fr => ?_⟩
  (repeat (refine wl_run orcCh_ok 1 rfl fr fun a fr => ?_))
  refine wpList_nil ?_; (repeat (with_reducible refine then_n ?_))
  obtain ⟨hadd2, L2⟩ := L1.add (r := [99, 0, 0, 0, 1, 1, 2]) (by decide) (by omega)
  skip; (repeat (with_reducible refine wp_seq ?_)); refine wp_region_lit ?_
  (repeat (refine wl_run orcCh_ok 1 rfl fr fun a fr => ?_))
  refine wl_build (cs := mgV 2 2 0 1 none 0 0 none 0 0) (L2 := [(0, .int .u8 2), (1, .int .u8 2), (3, .int .u32 1)]) fr rfl rfl rfl rfl (by simp [Act.eval]) (by kernel_rfl) rfl fun a fr => ?_
  refine wl_call fr rfl rfl rfl rfl enCame (came_step _ hC2 (liv2 _ _ _ hadd2).1 (liv2 _ _ _ hadd2).2 rfl rfl rfl hI2 (L1.b (by omega)) S) ?_
  rintro _ w7 ⟨A7, c7, gs3, rfl, hv7, hC3, hI3, -, S⟩
  have S := Sat.behind S
  refine ⟨.tuple #[.slice A7 2 2, .int .i64 0], rfl, hv7, fun a fr => ?_⟩
  (repeat (refine wl_run orcCh_ok 1 rfl fr fun a fr => ?_))
  refine wpList_nil ?_; (repeat (with_reducible refine then_n ?_))
  have L2 := L2.sync
  obtain ⟨x2, hx2⟩ : ∃ z, z = addXI D1 x1 [99, 0, 0, 0, 1, 1, 2] := ⟨_, rfl⟩
  obtain ⟨D2, hD2⟩ : ∃ z, z = (addDI D1 x1 [99, 0, 0, 0, 1, 1, 2]).sync := ⟨_, rfl⟩
  rw [← hx2, ← hD2] at L2 hC3 S
  have S : Sat w0 w7 (chW b bl bm 1 bk bw 0 d gs3 [] x2 D2 (pmA A7 c7 [(4, 1, 1), (4, 2, 1)] :: R1)) := S
  have hC3 : ss0 gs3 [] x2 D2 = ⟨[H3], [], x2, D2⟩ := hC3
  obtain ⟨R2, hR2⟩ : ∃ z, z = pmA A7 c7 [(4, 1, 1), (4, 2, 1)] :: R1 := ⟨_, rfl⟩
  rw [← hR2] at S
  skip; (repeat (with_reducible refine wp_seq ?_)); refine wp_region_lit ?_
  (repeat (refine wl_run orcCh_ok 1 rfl fr fun a fr => ?_))
  refine wl_call fr rfl rfl rfl rfl enTold (told_step (p := true) (ls := [[], []]) (z := 0) (congrArg Ss.gs hC3) rfl rfl hI3 S) ?_
  rintro _ w8 ⟨A8, rfl, hv8, S⟩
  refine ⟨.tuple #[.bool true, .slice A8 2 2, .int .i64 0], rfl, hv8, fun a fr => ?_⟩
  (repeat (refine wl_run orcCh_ok 1 rfl fr fun a fr => ?_))
  refine wpList_nil ?_; (repeat (with_reducible refine then_n ?_))
  skip; (repeat (with_reducible refine wp_seq ?_)); refine wp_region_lit ?_
  (repeat (refine wl_run orcCh_ok 1 rfl fr fun a fr => ?_))
  refine wl_build (cs := mgV 6 1 0 1 none 0 0 none 0 0) (L2 := [(0, .int .u8 6), (1, .int .u8 1), (3, .int .u32 1)]) fr rfl rfl rfl rfl (by simp [Act.eval]) (by kernel_rfl) rfl fun a fr => ?_
  refine wl_call fr rfl rfl rfl rfl enCame (came_step _ hC3 (liv3 _ _ _).1 (liv3 _ _ _).2 rfl rfl rfl hI3 (L2.b (by omega)) S) ?_
  rintro _ w9 ⟨A9, c9, gs4, rfl, hv9, hC4, hI4, -, S⟩
  have S := S.tl
  refine ⟨.tuple #[.slice A9 0 0, .int .i64 0], rfl, hv9, fun a fr => ?_⟩
  refine wpList_nil ?_; (repeat (with_reducible refine then_n ?_))
  have hC4 : ss0 gs4 [] x2 D2 = ⟨[H4], [], x2, D2⟩ := hC4
  skip; (repeat (with_reducible refine wp_seq ?_)); refine wp_region_lit ?_
  (repeat (refine wl_run orcCh_ok 1 rfl fr fun a fr => ?_))
  refine wl_call fr rfl rfl rfl rfl enPhase (phase_step (z := 3) (congrArg Ss.gs hC4) rfl rfl S) ?_
  rintro _ w10 ⟨rfl, hv10, S⟩
  refine ⟨_, rfl, hv10, fun a fr => ?_⟩
  (repeat (refine wl_run orcCh_ok 1 rfl fr fun a fr => ?_))
  refine wpList_nil ?_; (repeat (with_reducible refine then_n ?_))
  skip; (repeat (with_reducible refine wp_seq ?_)); refine wp_region_lit ?_
  (repeat (refine wl_run orcCh_ok 1 rfl fr fun a fr => ?_))
  refine wl_build (cs := mgV 6 2 0 1 none 0 0 none 0 0) (L2 := [(0, .int .u8 6), (1, .int .u8 2), (3, .int .u32 1)]) fr rfl rfl rfl rfl (by simp [Act.eval]) (by kernel_rfl) rfl fun a fr => ?_
  refine wl_call fr rfl rfl rfl rfl enCame (came_step _ hC4 (liv4 _ _ _).1 (liv4 _ _ _).2 rfl rfl rfl hI4 (L2.b (by omega)) S) ?_
  rintro _ w11 ⟨A11, c11, gs5, rfl, hv11, hC5, hI5, -, S⟩
  have S := S.tl
  refine ⟨.tuple #[.slice A11 0 0, .int .i64 0], rfl, hv11, fun a fr => ?_⟩
  refine wpList_nil ?_; (repeat (with_reducible refine then_n ?_))
  have hG5 : (gs5.map fun p => gl0 p.2) = [H5] := congrArg Ss.gs hC5
  skip; (repeat (with_reducible refine wp_seq ?_)); refine wp_region_lit ?_
  (repeat (refine wl_run orcCh_ok 1 rfl fr fun a fr => ?_))
  refine wl_call fr rfl rfl rfl rfl enTold (told_step (p := false) (ls := []) (z := 6) hG5 rfl rfl hI5 S) ?_
  rintro _ w12 ⟨A12, rfl, hv12, S⟩
  refine ⟨.tuple #[.bool false, .slice A12 0 0, .int .i64 6], rfl, hv12, fun a fr => ?_⟩
  (repeat (refine wl_run orcCh_ok 1 rfl fr fun a fr => ?_))
  refine wpList_nil ?_; (repeat (with_reducible refine then_n ?_))
  skip; (repeat (with_reducible refine wp_seq ?_)); refine wp_region_lit ?_
  (repeat (refine wl_run orcCh_ok 1 rfl fr fun a fr => ?_))
  refine wpList_nil ?_; (repeat (with_reducible refine then_n ?_))
  skip; (repeat (with_reducible refine wp_seq ?_)); refine wp_region_lit ?_
  (repeat (refine wl_run orcCh_ok 1 rfl fr fun a fr => ?_))
  refine wl_call fr rfl rfl rfl rfl enTickC tick_nil ?_
  rintro _ w13 ⟨rfl, rfl⟩
  refine ⟨_, rfl, rfl, fun a fr => ?_⟩
  (repeat (refine wl_run orcCh_ok 1 rfl fr fun a fr => ?_))
  refine wpList_nil ?_; (repeat (with_reducible refine then_n ?_))
  have S2 := Sat.past S
  rw [hR2, hR1] at S2
  obtain ⟨ad4, A5', c5', hA4, hm0, -, -⟩ := bm_cell (i := 0) S2.tl (by decide)
  obtain ⟨ad4', A6', c6', hA4', hm1, -, -⟩ := bm_cell (i := 1) S2.tl (by decide)
  obtain rfl : ad4 = ad4' := by rw [hA4] at hA4'; injection hA4'
  obtain ⟨ad7, hA7, hm7⟩ := pm_cell (i := 0) S2 0 rfl (by decide)
  skip; (repeat (with_reducible refine wp_seq ?_)); refine wp_region_lit ?_
  (repeat (refine wl_run orcCh_ok 1 rfl fr fun a fr => ?_))
  refine wl_ixe orcCh_ok hA4 fr rfl rfl rfl rfl rfl rfl rfl rfl ⟨by decide, by decide⟩ fun a fr => ?_
  (repeat (refine wl_run orcCh_ok 1 rfl fr fun a fr => ?_))
  refine wl_ldf orcCh_ok (v := .int .u8 1) ⟨(show w13.cell? ((ad4.add (0 * 6)).add 0) = some (.int .u8 1) by rw [add_add]; exact hm0 0 _ rfl), rfl⟩ fr rfl rfl rfl rfl rfl rfl rfl fun a fr => ?_
  (repeat (refine wl_run orcCh_ok 1 rfl fr fun a fr => ?_))
  refine wl_ixe orcCh_ok hA4 fr rfl rfl rfl rfl rfl rfl rfl rfl ⟨by decide, by decide⟩ fun a fr => ?_
  (repeat (refine wl_run orcCh_ok 1 rfl fr fun a fr => ?_))
  refine wl_ldf orcCh_ok (v := .int .u8 1) ⟨(show w13.cell? ((ad4.add (0 * 6)).add 2) = some (.int .u8 1) by rw [add_add]; exact hm0 2 _ rfl), rfl⟩ fr rfl rfl rfl rfl rfl rfl rfl fun a fr => ?_
  (repeat (refine wl_run orcCh_ok 1 rfl fr fun a fr => ?_))
  refine wl_ixe orcCh_ok hA4 fr rfl rfl rfl rfl rfl rfl rfl rfl ⟨by decide, by decide⟩ fun a fr => ?_
  (repeat (refine wl_run orcCh_ok 1 rfl fr fun a fr => ?_))
  refine wl_ldf orcCh_ok (v := .int .u8 2) ⟨(show w13.cell? ((ad4.add (1 * 6)).add 2) = some (.int .u8 2) by rw [add_add]; exact hm1 2 _ rfl), rfl⟩ fr rfl rfl rfl rfl rfl rfl rfl fun a fr => ?_
  (repeat (refine wl_run orcCh_ok 1 rfl fr fun a fr => ?_))
  refine wl_ixe orcCh_ok hA7 fr rfl rfl rfl rfl rfl rfl rfl rfl ⟨by decide, by decide⟩ fun a fr => ?_
  (repeat (refine wl_run orcCh_ok 1 rfl fr fun a fr => ?_))
  refine wl_ldf orcCh_ok (v := .int .u8 4) ⟨(show w13.cell? ((ad7.add (0 * 6)).add 0) = some (.int .u8 4) by rw [add_add]; exact hm7 0 _ rfl), rfl⟩ fr rfl rfl rfl rfl rfl rfl rfl fun a fr => ?_
  (repeat (refine wl_run orcCh_ok 1 rfl fr fun a fr => ?_))
  refine wl_call fr rfl rfl rfl rfl enPhase (phase_step (z := 4) hG5 rfl rfl S) ?_
  rintro _ w14 ⟨rfl, hv14, S⟩
  refine ⟨_, rfl, hv14, fun a fr => ?_⟩
  (repeat (refine wl_run orcCh_ok 1 rfl fr fun a fr => ?_))
  refine wpList_nil ?_; (repeat (with_reducible refine then_n ?_))
  refine wp_ret ?_
  have S3 := Sat.past S
  rw [hR2, hR1] at S3
  exact ret1 fr rfl rfl ⟨rfl, S3.tl.tl.tl.tl⟩
end
end Go.Proofs.YticnjkdaccacaaaGreat.Sx
end
section
namespace Go.Proofs.YticnjkdaccacaaaGreat.Sx
open Go Go.RowKit Base _root_.Go.Proofs.YticnjkdaccacaaaGreat.Own OwnV Disk
def seven : List (List Int) := [[1], [2], [3], [1, 2], [1, 3], [2, 3], [1, 2, 3]]
theorem plan_seven {l : List PartT} (h : planOk l = true) : l.map (·.1) ∈ seven := by
  obtain ⟨h1, h2, h3⟩ := plan_ok h
  have h4 := plan_few h
  have hr : ∀ x ∈ l.map (·.1), 1 ≤ x ∧ x ≤ 3 := fun x hx => by
    obtain ⟨p, hp, rfl⟩ := List.mem_map.1 hx
    exact ⟨(h1 p hp).1, (h1 p hp).2.1⟩
  have hp : (l.map (·.1)).Pairwise (fun x y => x < y) := List.Pairwise.map _ (fun _ _ h => h) h2
  have hl : 0 < (l.map (·.1)).length ∧ (l.map (·.1)).length ≤ 3 := by rw [List.length_map]; exact ⟨h3, h4⟩
  generalize l.map (·.1) = L at hr hp hl
  match L, hr, hp, hl with
  | [a], hr, _, _ =>
    have := hr a (by simp)
    have : a = 1 ∨ a = 2 ∨ a = 3 := by omega
    rcases this with rfl | rfl | rfl <;> decide
  | [a, b], hr, hp, _ =>
    have h1 := hr a (by simp)
    have h2 := hr b (by simp)
    have h3 : a < b := by simpa using hp
    have : (a = 1 ∧ b = 2) ∨ (a = 1 ∧ b = 3) ∨ (a = 2 ∧ b = 3) := by omega
    rcases this with ⟨rfl, rfl⟩ | ⟨rfl, rfl⟩ | ⟨rfl, rfl⟩ <;> decide
  | [a, b, c], hr, hp, _ =>
    have h1 := hr a (by simp)
    have h2 := hr b (by simp)
    have h3 := hr c (by simp)
    simp only [List.pairwise_cons, List.mem_cons, List.not_mem_nil, or_false, forall_eq_or_imp, forall_eq] at hp
    have : a = 1 ∧ b = 2 ∧ c = 3 := by omega
    obtain ⟨rfl, rfl, rfl⟩ := this
    decide
  | [], _, _, hl => simp at hl
  | _ :: _ :: _ :: _ :: _, _, _, hl => simp at hl
def G0 (L : List Int) : Gl RsT := gl0 (newG zV 1 L)
end Go.Proofs.YticnjkdaccacaaaGreat.Sx
end
section
namespace Go.Proofs.YticnjkdaccacaaaGreat.Base
open Go Go.RowKit Go.ChangeShapes Go.WideShapes
namespace Rdr
def smT {α : Type} : α → Prop := fun _ => True
def smB {α : Type} (B : Nat) (s : α → Prop) : List α → Prop := fun l => l.length * B ≤ 140737488351232 ∧ ∀ y ∈ l, s y
def smP {α β : Type} (s : α → Prop) (t : β → Prop) : α × β → Prop := fun x => s x.1 ∧ t x.2
def OfS (P : Program) (t : TypeId) {α : Type} (r : Rdr α) (s : α → Prop) : Prop :=
  P.cellsOf t = r.sz ∧ ∀ (H : Type) (enc : TypeId × Value → H) (w : World) (base : Nat) (spare : Nat → Bool) (held : Bool) (fuel : Nat) (cs : List Value) (x : DataW H × List MemPlace),
    DataW.trod enc P w base spare held fuel t cs = some x → ∃ y, r.R w cs y ∧ ((∀ n ∈ x.1.weights P t, n ≤ reachBytes) → s y)
section
variable {P : Program} {t : TypeId}
theorem ofS {α : Type} {r : Rdr α} (h : Of P t r) : OfS P t r smT := ⟨h.1, fun H enc w base spare held fuel cs x hx => by
  obtain ⟨y, hy⟩ := h.2 H enc w base spare held fuel cs x hx
  exact ⟨y, hy, fun _ => trivial⟩⟩
theorem all_mem {H : Type} {e : TypeId} : ∀ {l : List (DataW H)} {d : DataW H}, d ∈ l → ∀ n ∈ d.weights P e, n ∈ DataW.weightsAll P e l := by
  intro l
  induction l with
  | nil => intro d hd; cases hd
  | cons c l ih =>
    intro d hd n hn
    simp only [DataW.weightsAll, List.mem_append]
    rcases List.mem_cons.1 hd with rfl | hd
    · exact .inl hn
    · exact .inr (ih hd n hn)
theorem ofB_sl {α : Type} {r : Rdr α} {s : α → Prop} {e : TypeId} (ht : P.underlying t = some (.slice e)) (hc : P.cellsOf t = 1) (he : OfS P e r s) {B : Nat} (hB : P.bytesOf e = B) (hB0 : 0 < B) : OfS P t (sl r) (smB B s) := by
  refine ⟨hc, fun H enc w base spare held fuel cs x h => ?_⟩
  rcases Deep.open_slice ht h with ⟨rfl, _⟩ | ⟨a, len, cap, m, n, D, Pl, rfl, hb, hl, hm, hmm, hxe, hx⟩
  · exact ⟨[], ⟨none, 0, rfl, Nat.le_refl _, Nat.zero_le _, fun h => absurd rfl h⟩, fun _ => ⟨by show 0 * B ≤ _; omega, fun y hy => by cases hy⟩⟩
  · rw [he.1] at hx
    have hlm : len ≤ m := by rw [hmm]; split <;> omega
    have hex : ∀ i, i < len → ∃ y c, w.cells? base (a.add (i * r.sz)) r.sz = some c ∧ r.R w c y ∧ ((∀ n ∈ (D i).weights P e, n ≤ reachBytes) → s y) := by
      intro i hi
      obtain ⟨c, h1, h2⟩ := hx i (by omega)
      obtain ⟨y, hy, hs⟩ := he.2 H enc w base spare held n _ _ h2
      exact ⟨y, c, h1, hy, hs⟩
    obtain ⟨f, hf⟩ : ∃ f : Fin len → α, ∀ i : Fin len, ∃ c, w.cells? base (a.add (i.val * r.sz)) r.sz = some c ∧ r.R w c (f i) ∧ ((∀ n ∈ (D i.val).weights P e, n ≤ reachBytes) → s (f i)) :=
      ⟨fun i => (hex i.val i.isLt).choose, fun i => (hex i.val i.isLt).choose_spec⟩
    refine ⟨List.ofFn f, ⟨some a, cap, by simp, by simp; exact hl, hm, fun hne => ⟨a, rfl, fun hp => ?_, fun i y hy => ?_⟩⟩, fun hw => ⟨?_, fun y hy => ?_⟩⟩
    · have hpos : 0 < len := by
        rcases Nat.eq_zero_or_pos len with h0 | h0
        · subst h0; simp at hne
        · exact h0
      obtain ⟨c, h1, h2, _⟩ := hf ⟨0, hpos⟩
      obtain ⟨_, hlen, hcell⟩ := World.cells?_some h1
      have h3 := hcell 0 (by omega)
      rw [List.getElem?_eq_getElem (by omega)] at h3
      have h4 := World.block_lt_of_cell? w _ h3
      rw [add_block, add_block] at h4
      exact h4
    · have hi : i < len := by
        have := (List.getElem?_eq_some_iff.1 hy).1; simpa using this
      have h2 := (List.getElem?_eq_some_iff.1 hy).2
      rw [List.getElem_ofFn] at h2
      obtain ⟨c, h3, h4, _⟩ := hf ⟨i, hi⟩
      rw [h2] at h4
      refine ⟨c, h4, fun j u hu => ?_⟩
      obtain ⟨_, hlen, hcell⟩ := World.cells?_some h3
      have hj : j < r.sz := by have := (List.getElem?_eq_some_iff.1 hu).1; omega
      have h5 := hcell j hj
      rw [add_add] at h5
      rw [h5]; exact hu
    · rw [List.length_ofFn]
      subst hxe
      have h1 := hw ((((List.range len).map D).length + ((List.range (m - len)).map fun j => D (len + j)).length) * P.bytesOf e) (by simp only [DataW.weights, ht]; exact List.mem_cons_self)
      rw [List.length_map, List.length_range, hB] at h1
      have h2 : len * B ≤ (len + ((List.range (m - len)).map fun j => D (len + j)).length) * B := Nat.mul_le_mul_right _ (Nat.le_add_right _ _)
      have h3 : reachBytes ≤ 140737488351232 := by decide
      omega
    · obtain ⟨i, hi, rfl⟩ := List.getElem_of_mem hy
      rw [List.length_ofFn] at hi
      rw [List.getElem_ofFn]
      obtain ⟨c, _, _, h4⟩ := hf ⟨i, hi⟩
      refine h4 fun n hn => hw n ?_
      subst hxe
      simp only [DataW.weights, ht]
      exact List.mem_cons_of_mem _ (List.mem_append_left _ (all_mem (List.mem_map.2 ⟨i, List.mem_range.2 hi, rfl⟩) n hn))
def OfFS (P : Program) (fs : List Field) (off : Nat) {α : Type} (r : Rdr α) (s : α → Prop) : Prop :=
  ∀ (H : Type) (enc : TypeId × Value → H) (w : World) (base : Nat) (spare : Nat → Bool) (held : Bool) (fuel : Nat) (cs : List Value) (xs : List (DataW H × List MemPlace)),
    cs.length = off + r.sz → (fs.mapM fun f => DataW.trod enc P w base spare held fuel f.type ((cs.drop f.offset).take (P.cellsOf f.type))) = some xs → ∃ y, r.R w (cs.drop off) y ∧ ((∀ n ∈ DataW.weightsEach P (fs.map (·.type)) (xs.map (·.1)), n ≤ reachBytes) → s y)
theorem ofFS_nil (off : Nat) : OfFS P [] off unit smT := by
  intro H enc w base spare held fuel cs xs hl _
  exact ⟨(), List.drop_eq_nil_of_le (by rw [hl]; exact Nat.le_refl _), fun _ => trivial⟩
theorem ofFS_cons {α β : Type} {r : Rdr α} {s : Rdr β} {f : Field} {fs : List Field} {off : Nat} {s1 : α → Prop} {s2 : β → Prop} (hf : f.offset = off) (hr : OfS P f.type r s1) (hs : OfFS P fs (off + r.sz) s s2) : OfFS P (f :: fs) off (pair r s) (smP s1 s2) := by
  intro H enc w base spare held fuel cs xs hl h
  have hl' : cs.length = off + (r.sz + s.sz) := hl
  simp only [List.mapM_cons, Option.bind_eq_bind, Option.bind_eq_some_iff] at h
  obtain ⟨x, h1, ys, h2, h3⟩ := h
  injection h3 with h3
  rw [hf, hr.1] at h1
  obtain ⟨a, ha, ha2⟩ := hr.2 H enc w base spare held fuel _ _ h1
  obtain ⟨b, hb, hb2⟩ := hs H enc w base spare held fuel cs ys (by omega) h2
  refine ⟨(a, b), ⟨(cs.drop off).take r.sz, cs.drop (off + r.sz), ?_, ha, hb⟩, fun hw => ⟨ha2 fun n hn => hw n ?_, hb2 fun n hn => hw n ?_⟩⟩
  · rw [← List.drop_drop, List.take_append_drop]
  · rw [← h3]
    simp only [List.map_cons, DataW.weightsEach, List.mem_append]
    exact .inl hn
  · rw [← h3]
    simp only [List.map_cons, DataW.weightsEach, List.mem_append]
    exact .inr hn
theorem ofS_st {α : Type} {r : Rdr α} {s : α → Prop} {fs : Array Field} (ht : P.underlying t = some (.struct fs)) (hc : P.cellsOf t = r.sz) (hF : OfFS P fs.toList 0 r s) : OfS P t r s := by
  refine ⟨hc, fun H enc w base spare held fuel cs x h => ?_⟩
  cases fuel with
  | zero => simp [DataW.trod] at h
  | succ n =>
    unfold DataW.trod at h
    rw [ht] at h
    simp only at h
    split at h
    · rename_i hl
      simp only [Option.map_eq_some_iff] at h
      obtain ⟨xs, hxs, hx⟩ := h
      obtain ⟨y, hy, hy2⟩ := hF H enc w base spare held n cs xs (by rw [hl, hc]; omega) hxs
      refine ⟨y, by simpa using hy, fun hw => hy2 fun k hk => hw k ?_⟩
      rw [← hx]
      simp only [DataW.weights, ht]
      exact hk
    · cases h
theorem ofS_slice_arg {α : Type} {r : Rdr α} {s : List α → Prop} {H : Type} {enc : TypeId × Value → H} {w : World} {base : Nat} {spare : Nat → Bool} {held : Bool} {A : Option Addr} {len cap : Nat} {d : DataW H} {ps : List MemPlace} {ts : List TypeId} {ds : List (DataW H)} {j : Nat}
    (hsz : (DataW.weightsEach P ts ds).all (· ≤ reachBytes) = true) (hj : ts[j]? = some t) (hd' : ds[j]? = some d) (h : OfS P t (sl r) s) (hd : DataW.Trod enc P w base spare held t (.slice A len cap) d ps) :
    ∃ l : List α, l.length = len ∧ len ≤ cap ∧ cap ≤ maxLen ∧ Row r w A l ∧ s l := by
  obtain ⟨fuel, hf⟩ := hd
  obtain ⟨l, ⟨A', cap', e, h1, h2, h3⟩, h4⟩ := h.2 H enc w base spare held fuel _ _ hf
  simp only [Value.cells, List.cons.injEq, and_true] at e
  injection e with e1 e2 e3
  subst e1 e2 e3
  exact ⟨l, rfl, h1, h2, h3, h4 fun n hn => of_decide_eq_true (List.all_eq_true.1 hsz n (DataW.weights_mem_each hj hd' n hn))⟩
end
end Rdr
end Go.Proofs.YticnjkdaccacaaaGreat.Base
end
section
namespace Go.Proofs.YticnjkdaccacaaaGreat.Sx
open Go Go.RowKit Base _root_.Go.Proofs.YticnjkdaccacaaaGreat.Own OwnV Disk
section
variable {P : Program} {T : Orc} {Q : Exit → Act → World → Prop} {S' : World → Prop} {Df : List Deferred} {N : Nat} {a : Act} {w : World} {L : Env}
theorem sl_ixe (hT : T.Ok P) {s : SOp} {rest : List Itm} {t : TypeId} {x ix : Operand} {d n c e z : Nat} {A : Option Addr} {ad : Addr} {ki : IntKind} {i : Int} (hA : A = some ad) (fr : FrD Df N a L) (hw : wantS L s = some true) (hq : s.q = true) (ho : s.op = .indexAddr t x ix) (hd : s.dst = some d) (hlt : Nat.blt d N = true) (hx : ev L x = some (.slice A n c)) (hi : ev L ix = some (.int ki i))
    (ht : T.ty.lookup t = some (.slice e)) (hs : T.sz.lookup e = some z) (hb : 0 ≤ i ∧ i < (n : Int)) (h : ∀ a', FrD Df N a' ((d, .pointer (some (ad.add (i.toNat * z)))) :: L) → SL P Q S' rest a' w) : SL P Q S' (.one s :: rest) a w := by
  subst hA
  exact sl_q fr hw hq hd hlt (fun w' _ => indexAddr_run hT fr (o := s.oper) ho hx hi ht hs hb.1 hb.2 w') rfl h
end
theorem parts_of {w : World} {A : Option Addr} {l : List PartT} (h : Rdr.Row partR w A l) : ∃ ps : List RawP, ps.map partOf = l ∧ PartsW ps ∧ RdParts w A ps := by
  obtain ⟨ps, h1, h2⟩ := choose_list (n := l.length) (p := fun i (p : RawP) => ∃ hi : i < l.length, partOf p = l[i] ∧ (Lit.int .u8 p.1).wf = true ∧ (p.2.2.2.length ≤ p.2.2.1 ∧ p.2.2.1 ≤ maxLen) ∧ Rdr.Row opR w p.2.1 p.2.2.2 ∧ ∃ ad, A = some ad ∧ ∀ j u, (pcV p)[j]? = some u → w.cell? (ad.add (i * 2 + j)) = some u) (fun i hi => by
    obtain ⟨cs, h1, ad, hA, hc⟩ := row_get h hi
    obtain ⟨A', c', rfl, hk, hm, hro⟩ := part_of h1
    exact ⟨(l[i].1, A', c', l[i].2.1), hi, rfl, hk, hm, hro, ad, hA, hc⟩)
  have hm : ps.map partOf = l := by
    apply List.ext_getElem
    · rw [List.length_map, h1]
    · intro i q1 q2
      rw [List.getElem_map]
      exact (h2 i (by simpa using q1)).2.1
  have hmem : ∀ p ∈ ps, (Lit.int .u8 p.1).wf = true ∧ (p.2.2.2.length ≤ p.2.2.1 ∧ p.2.2.1 ≤ maxLen) ∧ Rdr.Row opR w p.2.1 p.2.2.2 := fun p hp => by
    obtain ⟨i, hi, rfl⟩ := List.mem_iff_getElem.1 hp
    exact ⟨(h2 i hi).2.2.1, (h2 i hi).2.2.2.1, (h2 i hi).2.2.2.2.1⟩
  refine ⟨ps, hm, ⟨fun p hp => (hmem p hp).1, fun p hp => (hmem p hp).2.1, fun p hp x hx => ?_⟩, ⟨fun hA => ?_, fun i hi ad hA => ?_, fun p hp => ⟨fun hA => ?_, ?_⟩⟩⟩
  · obtain ⟨i, hi, rfl⟩ := List.mem_iff_getElem.1 hx
    obtain ⟨cs, h1, _⟩ := row_get (hmem p hp).2.2 hi
    exact (op_of h1).2
  · have : l = [] := by rw [hA] at h; exact row_none h
    rw [this] at hm
    simpa using hm
  · obtain ⟨ad', hA', hc⟩ := (h2 i hi).2.2.2.2.2
    rw [hA] at hA'
    injection hA' with hA'
    subst hA'
    exact hc
  · have := (hmem p hp).2.2
    rw [hA] at this
    exact row_none this
  · exact flat_cells (r := opR) (z := 4) rfl (by decide) (fun _ => rfl) (fun w cs x hx => (op_of hx).1) (hmem p hp).2.2
theorem RdParts.below {w w' : World} {A : Option Addr} {ps : List RawP} (h : RdParts w A ps) (hb : Below w.heap.size w w') : RdParts w' A ps :=
  ⟨h.none, fun i hi ad hA j u hu => RR.cellAt hb (h.cell i hi ad hA j u hu), fun p hp => ⟨(h.ops p hp).none, fun ad hA j u hu => RR.cellAt hb ((h.ops p hp).cell ad hA j u hu)⟩⟩
section
variable {w w0 : World} {R : List Asn} {b bl bm bk bw bd : Nat} {last now x : Int} {m : List (Int × Int)} {gs : Gs} {D : Dk}
end
end Go.Proofs.YticnjkdaccacaaaGreat.Sx
end
section
namespace Go.Proofs.YticnjkdaccacaaaGreat.Sx
open Go Go.RowKit Base _root_.Go.Proofs.YticnjkdaccacaaaGreat.Own OwnV Disk
abbrev MsgT := Int × Int × Int × Int × List OpT × RsT × Unit
abbrev msgR : Rdr MsgT := Rdr.pair (Rdr.int .u8) (Rdr.pair (Rdr.int .u8) (Rdr.pair (Rdr.int .u8) (Rdr.pair (Rdr.int .u32) (Rdr.pair (Rdr.sl opR) (Rdr.pair (Rdr.sl resR) Rdr.unit)))))
theorem msg_at {w : World} {A : Option Addr} {l : List MsgT} (h : Rdr.Row msgR w A l) {i : Nat} (hi : i < l.length) : ∃ (ad : Addr) (Ao : Option Addr) (no co : Nat) (Ar : Option Addr) (cr : Nat) (rs : List RawR), A = some ad ∧ (∀ j u, (mgV l[i].1 l[i].2.1 l[i].2.2.1 l[i].2.2.2.1 Ao no co Ar rs.length cr)[j]? = some u → w.cell? (ad.add (i * 6 + j)) = some u) ∧ MgW l[i].1 l[i].2.1 l[i].2.2.1 l[i].2.2.2.1 no co rs.length cr ∧ RdRaw w Ar rs ∧ RawW rs ∧ rawL rs = l[i].2.2.2.2.2.1 := by
  obtain ⟨cs, hr, ad, hA, hc⟩ := row_get h hi
  generalize l[i] = x at hr
  obtain ⟨c1, d1, rfl, ⟨rfl, h1⟩, c2, d2, rfl, ⟨rfl, h2⟩, c3, d3, rfl, ⟨rfl, h3⟩, c4, d4, rfl, ⟨rfl, h4⟩, c5, d5, rfl, ⟨Ao, co, rfl, h5, h5', -⟩, c6, d6, rfl, ⟨Ar, cr, rfl, h6, h6', h6''⟩, h7⟩ := hr
  have h7 : d6 = [] := h7
  subst h7
  obtain ⟨rs, e1, e2, e3⟩ := raw_of h6''
  have hl : rs.length = x.2.2.2.2.2.1.length := by rw [← e1]; simp [rawL]
  refine ⟨ad, Ao, x.2.2.2.2.1.length, co, Ar, cr, rs, hA, fun j u hu => hc j u ?_, ⟨h1, h2, h3, h4, ⟨h5, h5'⟩, by rw [hl]; exact ⟨h6, h6'⟩⟩, e2, e3, e1⟩
  rw [hl] at hu
  exact hu
def parts4 (L : List Int) : List Bool := (newG hz0 1 L).v.map (·.part)
structure One (L : List Int) (G : Gl RsT) : Prop where
  g : G.g = 1
  kn : G.kn = true
  p : G.v.map (·.part) = parts4 L
theorem part_upd {f : Vt RsT → Vt RsT} (h : ∀ v, (f v).part = v.part) (k : Nat) (l : List (Vt RsT)) : (updV f k l).map (·.part) = l.map (·.part) := upd_map (f := fun (_ : RsT) => true) (F := fun v : Vt RsT => v.part) h k l
theorem One.vote {L : List Int} {G : Gl RsT} (h : One L G) (k : Nat) (l : RsT) : One L (voteG G k l) := ⟨h.g, h.kn, (part_upd (f := vVote l) (fun _ => rfl) k G.v).trans h.p⟩
theorem One.doneG {L : List Int} {G : Gl RsT} (h : One L G) (k : Nat) : One L (doneG G k) := ⟨h.g, h.kn, (part_upd (f := vDone) (fun _ => rfl) k G.v).trans h.p⟩
theorem One.same {L : List Int} {G G' : Gl RsT} (h : One L G) (e1 : G'.g = G.g) (e2 : G'.kn = G.kn) (e3 : G'.v = G.v) : One L G' := ⟨e1.trans h.g, e2.trans h.kn, by rw [e3]; exact h.p⟩
theorem One.doing {L : List Int} {C : Cs RsT} (h : One L C.G) (s : Int) (k : Nat) (l : RsT) : One L (doingC C s k l).G := by
  unfold doingC
  split
  · exact h.same rfl rfl rfl
  · split
    · exact h
    · split
      · exact h.vote k l
      · refine (h.vote k l).same ?_ ?_ ?_ <;> (show _ = _; simp only; unfold commitM; split <;> rfl)
theorem One.done {L : List Int} {G : Gl RsT} (h : One L G) (k : Nat) : One L (doneM G k) := by
  unfold doneM
  split
  · split
    · exact (h.doneG k).same rfl rfl rfl
    · exact h.doneG k
  · exact h
theorem sites_map : ∀ (l : List (Vt RsT)) (i : Nat), sitesFrom allV i l = ((l.map (·.part)).zipIdx i).filterMap fun p => if p.1 = true then some (p.2 : Int) else none := by
  intro l
  induction l with
  | nil => intro i; rfl
  | cons v r ih =>
    intro i
    unfold sitesFrom
    rw [List.map_cons, List.zipIdx_cons, List.filterMap_cons, ih (i + 1)]
    have e : (v.part && allV v) = v.part := by unfold allV; simp
    rw [e]
    cases v.part <;> rfl
theorem One.sites {L : List Int} (hL : L ∈ seven) {G : Gl RsT} (h : One L G) : sites allV G = L := by
  unfold Sx.sites
  rw [sites_map, h.p]
  simp only [seven, List.mem_cons, List.not_mem_nil, or_false] at hL
  rcases hL with rfl | rfl | rfl | rfl | rfl | rfl | rfl <;> rfl
theorem One.partAt {L : List Int} (hL : L ∈ seven) {G : Gl RsT} (h : One L G) {k : Nat} (hk : k < 4) : partAt G k = hasI L (k : Int) := by
  have e : Sx.partAt G k = (match (G.v.map (·.part))[k]? with | some b => b | none => false) := by
    unfold Sx.partAt
    rw [List.getElem?_map]
    cases G.v[k]? <;> rfl
  rw [e, h.p]
  have : k = 0 ∨ k = 1 ∨ k = 2 ∨ k = 3 := by omega
  simp only [seven, List.mem_cons, List.not_mem_nil, or_false] at hL
  rcases hL with rfl | rfl | rfl | rfl | rfl | rfl | rfl <;> rcases this with rfl | rfl | rfl | rfl <;> rfl
theorem One.len {L : List Int} {G : Gl RsT} (h : One L G) (hL : L ∈ seven) : G.v.length = 4 := by
  have := congrArg List.length h.p
  rw [List.length_map] at this
  rw [this]
  simp only [seven, List.mem_cons, List.not_mem_nil, or_false] at hL
  rcases hL with rfl | rfl | rfl | rfl | rfl | rfl | rfl <;> rfl
theorem One.start {L : List Int} (hL : L ∈ seven) : One L (G0 L) := by
  simp only [seven, List.mem_cons, List.not_mem_nil, or_false] at hL
  rcases hL with rfl | rfl | rfl | rfl | rfl | rfl | rfl <;> exact ⟨rfl, rfl, rfl⟩
theorem log_came {L : List Int} (hL : L ∈ seven) {G : Gl RsT} (h1 : One L G) {m : List (Int × Int)} {x : Int} {D : Dk} {k : Nat} (h : LogI D x k) (hk : k < 4096) (s f t g : Int) (l : RsT) : LogI (cameS ⟨[G], m, x, D⟩ s f t g l).D (cameS ⟨[G], m, x, D⟩ s f t g l).x (k + 1) := by
  have h0 : LogI D x (k + 1) := h.mono (by omega)
  unfold cameS
  split
  · exact h0
  · split
    · exact h0
    · split
      · exact h0
      · rename_i p hp
        have hpG : p.2 = G ∧ p.1 = 0 := by
          unfold findG idxG at hp
          split at hp
          · simp only [Option.bind_some, List.getElem?_cons_zero, Option.map_some, Option.some.injEq] at hp
            rw [← hp]; exact ⟨rfl, rfl⟩
          · simp [idxG] at hp
        rw [hpG.1]
        unfold cameG
        split
        · exact h0
        · split
          · show LogI (doingC ⟨G, m, x, D⟩ s f.toNat l).D (doingC ⟨G, m, x, D⟩ s f.toNat l).x (k + 1)
            unfold doingC
            split
            · exact h0
            · split
              · exact h0
              · split
                · exact h0
                · show LogI (commitD (voteG G f.toNat l) D x) (addXI D x (commitR (voteG G f.toNat l))) (k + 1)
                  have ha := h.add (r := commitR (voteG G f.toNat l)) (commitR_len ((h1.vote _ _).len hL)) hk
                  unfold commitD
                  split
                  · exact ha.2.sync
                  · exact ha.2
          · split
            · exact h0
            · split
              · show LogI (doneD G f.toNat D x) (doneX G f.toNat D x) (k + 1)
                unfold doneD doneX
                split
                · exact (h.add (r := endR G.g) (by unfold endR; simp [fourL]) hk).2
                · exact h0
              · exact h0
end Go.Proofs.YticnjkdaccacaaaGreat.Sx
end
section
namespace Go.Proofs.YticnjkdaccacaaaGreat.Sx
open Go Go.RowKit Base _root_.Go.Proofs.YticnjkdaccacaaaGreat.Own OwnV Disk
def ysOf (G : Gl RsT) : List Int := G.v.map fun v => if v.yes = true then 1 else 0
structure AllI (L : List Int) (G : Gl RsT) (st : Int) (ys : List Int) (miss : Int) : Prop where
  one : One L G
  hst : (st = 0 ∧ G.ph = 1) ∨ (st = 1 ∧ G.ph ≠ 1 ∧ G.com = true) ∨ (st = 2 ∧ G.ph ≠ 1 ∧ G.com = false)
  hys : ys = ysOf G
  hmiss : st = 0 → miss = ((sites notYes G).length : Int)
theorem find_one {G : Gl RsT} {g : Int} : findG [G] g = if G.g = g then some (0, G) else none := by
  unfold findG idxG
  split
  · rfl
  · rfl
theorem hasI_take {L : List Int} {k : Nat} (hk : k < L.length) (f : Int) : hasI (L.take (k + 1)) f = (hasI (L.take k) f || f == L[k]) := by
  rw [List.take_succ_eq_append_getElem hk]
  unfold hasI
  rw [List.any_append]
  simp only [List.any_cons, List.any_nil, Bool.or_false]
theorem AllI.start {L : List Int} (hL : L ∈ seven) : AllI L (G0 L) 0 [0, 0, 0, 0] (L.length : Int) := by
  refine ⟨One.start hL, .inl ⟨rfl, ?_⟩, ?_, fun _ => ?_⟩
  · rfl
  all_goals
    simp only [seven, List.mem_cons, List.not_mem_nil, or_false] at hL
    rcases hL with rfl | rfl | rfl | rfl | rfl | rfl | rfl <;> rfl
section
variable {w w0 : World} {R : List Asn} {b bl bm bk bw bd : Nat} {last now x : Int} {m : List (Int × Int)} {gs : Gs} {D : Dk}
theorem before_perm (X : Asn) : (chW b bl bm last bk bw now bd gs m x D (X :: R)).Perm (X :: chW b bl bm last bk bw now bd gs m x D R) :=
  List.perm_middle (l₁ := chS b bl bm last bk :: logA bl bd x :: diskA bd D :: ckS bk bw now :: ckM bw m :: glM bm gs :: gsT gs) (a := X) (l₂ := R)
theorem Sat.before {X : Asn} (S : Sat w0 w (chW b bl bm last bk bw now bd gs m x D (X :: R))) : Sat w0 w (X :: chW b bl bm last bk bw now bd gs m x D R) := S.perm (before_perm X)
end
end Go.Proofs.YticnjkdaccacaaaGreat.Sx
end
section
namespace Go.Proofs.YticnjkdaccacaaaGreat.Sx
open Go Go.RowKit Base _root_.Go.Proofs.YticnjkdaccacaaaGreat.Own OwnV Disk
set_option maxRecDepth 100000 in
theorem op_equal {x : OpT} (hx : OpW x) (w : World) : (Op.equal 104 (.agg (opV x).toArray) (.agg (opV x).toArray)).run Tryz.prog w = .ok true w := by
  have hk : Tryz.prog.keyTypeAt 3 104 = true := by kernel_rfl
  have hf : (Value.agg (opV x).toArray).formed Tryz.prog 104 = true := by kernel_rfl
  have hla : Tryz.prog.keyLits 3 104 (Value.agg (opV x).toArray).cells.toList = ((if IntKind.u8 = IntKind.u8 ∧ (Lit.int .u8 x.1).wf = true then some [Lit.int .u8 x.1] else none).bind fun a => (if x.2.1.size ≤ maxLen then some [Lit.string x.2.1.data.toList] else none).bind fun b => (if x.2.2.1.size ≤ maxLen then some [Lit.string x.2.2.1.data.toList] else none).bind fun c => (if IntKind.u32 = IntKind.u32 ∧ (Lit.int .u32 x.2.2.2.1).wf = true then some [Lit.int .u32 x.2.2.2.1] else none).bind fun d => some [a, b, c, d]).map List.flatten := by kernel_rfl
  rw [if_pos ⟨rfl, hx.k⟩, if_pos hx.a, if_pos hx.b, if_pos ⟨rfl, hx.v⟩] at hla
  obtain ⟨r, hr, hi⟩ := run_equalIn_deep 9997 3 104 hk w 3 3 _ _ _ _ hf hf hla hla
  have : r = true := hi.2 rfl
  rw [this] at hr
  exact hr
section
variable {P : Program} {T : Orc} {Q : Exit → Act → World → Prop} {S' : World → Prop} {Df : List Deferred} {N : Nat} {a : Act} {w w0 : World} {L : Env}
theorem sl_opneq {s : SOp} {rest : List Itm} {x y : Operand} {d : Nat} {u : OpT} {ty : TypeId} (hu : OpW u) (fr : FrD Df N a L) (hw : wantS L s = some true) (hq : s.q = true) (hd : s.dst = some d) (hlt : Nat.blt d N = true) (ho : s.op = .binOp .neq 104 x y ty) (hx : ev L x = some (.agg (opV u).toArray)) (hy : ev L y = some (.agg (opV u).toArray))
    (h : ∀ a', FrD Df N a' ((d, .bool false) :: L) → SL Tryz.prog Q S' rest a' w) : SL Tryz.prog Q S' (.one s :: rest) a w := by
  refine sl_q (v := .bool false) fr hw hq hd hlt (fun w' _ => ?_) rfl h
  unfold execOp
  simp only [SOp.oper, ho, (fr.ev hx).1, (fr.ev hy).1]
  rw [Sem.run_bind, Sem.run_bind, run_eqGuard_agg (P := Tryz.prog) w' .neq 104 x y _ _ (by kernel_rfl), Result.andThen_ok]
  have e : (binOp .neq 104 (.agg (opV u).toArray) (.agg (opV u).toArray)).run Tryz.prog w' = .ok (.bool false) w' := by
    show ((do pure (.bool (!(← Op.equal 104 (.agg (opV u).toArray) (.agg (opV u).toArray)))) : Sem Value)).run Tryz.prog w' = _
    rw [Sem.run_bind, op_equal hu]
    rfl
  rw [e]
  rfl
end
theorem enSameOps : Enters Tryz.prog 15 := fun _ _ => by kernel_rfl
theorem ops_at {w : World} {A : Option Addr} {l : List OpT} (h : RdOps w A l) {i : Nat} (hi : i < l.length) : ∃ ad, A = some ad ∧ ∀ j u, (opV l[i])[j]? = some u → w.cell? (ad.add (i * 4 + j)) = some u := by
  obtain ⟨ad, hA⟩ := h.some hi
  exact ⟨ad, hA, fun j u hu => h.cell ad hA _ u (el_get (f := opV) (z := 4) (fun _ => rfl) l i j u hi hu)⟩
set_option maxRecDepth 100000 in
set_option maxHeartbeats 1000000 in
theorem sameops_call {w w0 : World} {R : List Asn} {A B : Option Addr} {ca cb : Nat} {l : List OpT} (hA : ∀ w', Sat w0 w' R → RdOps w' A l) (hB : ∀ w', Sat w0 w' R → RdOps w' B l) (hW : ∀ x ∈ l, OpW x) (ha : l.length ≤ ca ∧ ca ≤ maxLen) (hb : l.length ≤ cb ∧ cb ≤ maxLen) (S : Sat w0 w R) :
    Calls Tryz.prog 15 #[.slice A l.length ca, .slice B l.length cb] w fun e w' => e = .returned (.bool true) ∧ Sat w0 w' R := by
  refine calls_start (N := 26) [.slice A l.length ca, .slice B l.length cb] Tryz.func15 rfl rfl rfl (vok_c (vok_sl ha) (vok_c (vok_sl hb) rfl)) fun a fr => ?_
  skip; (repeat (with_reducible refine wp_seq ?_)); refine wp_region_lit ?_
  (repeat (refine wl_run orcP_ok 1 rfl fr fun a fr => ?_))
  refine wpList_nil ?_; (repeat (with_reducible refine then_n ?_))
  skip; (repeat (with_reducible refine wp_seq ?_)); refine wp_region_lit ?_
  (repeat (refine wl_run orcP_ok 1 rfl fr fun a fr => ?_))
  refine wpList_nil ?_; (repeat (with_reducible refine then_n ?_))
  have fr := fr.bool (d := 10) rfl (show ((l.length : Int) != (l.length : Int)) = false by simp)
  skip; (repeat (with_reducible refine wp_seq ?_))
  refine cw_f fr rfl ?_
  refine wp_skip ?_
  (with_reducible refine then_n ?_)
  skip; (repeat (with_reducible refine wp_seq ?_)); refine wp_region_lit ?_
  (repeat (refine wl_run orcP_ok 1 rfl fr fun a fr => ?_))
  refine wpList_nil ?_; (repeat (with_reducible refine then_n ?_))
  skip; (repeat (with_reducible refine wp_seq ?_))
  refine wp_block ?_
  refine cw_loop (fun q a w2 => ∃ i : Nat, i + q = l.length + 1 ∧ i ≤ l.length ∧ Fr 26 a [(0, .slice A l.length ca), (1, .slice B l.length cb), (5, .int .i64 (i : Int))] ∧ Sat w0 w2 R) (l.length + 1)
    ⟨0, by omega, by omega, fr.sub ⟨rfl, rfl, rfl, trivial⟩, S⟩ ?_ ?_
  · rintro a w2 ⟨i, h, h', -⟩
    omega
  clear fr S
  rintro q a w2 ⟨i, hi, hi', fr, S⟩
  skip; (repeat (with_reducible refine wp_seq ?_)); refine wp_region_lit ?_
  (repeat (refine wl_run orcP_ok 1 rfl fr fun a fr => ?_))
  refine wpList_nil ?_; (repeat (with_reducible refine then_n ?_))
  by_cases hlt : i < l.length
  rotate_left
  · have fr := fr.bool (d := 14) rfl (decide_eq_false (show ¬ (i : Int) < (l.length : Int) by omega))
    skip; (repeat (with_reducible refine wp_seq ?_))
    refine cw_f fr rfl ?_
    refine wp_exit ?_
    skip; (repeat (first | (with_reducible refine then_e ?_) | (with_reducible refine ng_e ?_) | (with_reducible refine blk_e (by decide) ?_))); (with_reducible refine blk_y ?_); (repeat (with_reducible refine then_n ?_))
    skip; (repeat (with_reducible refine wp_seq ?_)); refine wp_region_lit ?_
    (repeat (refine wl_run orcP_ok 1 rfl fr fun a fr => ?_))
    refine wpList_nil ?_; (repeat (with_reducible refine then_n ?_))
    refine wp_ret ?_
    exact ret1 fr rfl rfl ⟨rfl, S⟩
  have fr := fr.bool (d := 14) rfl (decide_eq_true (show (i : Int) < (l.length : Int) by omega))
  skip; (repeat (with_reducible refine wp_seq ?_))
  refine cw_t fr rfl ?_
  refine wp_skip ?_
  (with_reducible refine then_n ?_)
  obtain ⟨ad1, hA1, -⟩ := ops_at (hA _ S) hlt
  obtain ⟨ad2, hB1, -⟩ := ops_at (hB _ S) hlt
  have hc1 : ∀ w', Sat w0 w' R → ∀ j u, (opV l[i])[j]? = some u → w'.cell? ((ad1.add (i * 4)).add j) = some u := fun w' S' j u hu => by
    obtain ⟨ad, h1, h2⟩ := ops_at (hA w' S') hlt
    rw [hA1] at h1; injection h1 with h1; subst h1
    rw [add_add]; exact h2 j u hu
  have hc2 : ∀ w', Sat w0 w' R → ∀ j u, (opV l[i])[j]? = some u → w'.cell? ((ad2.add (i * 4)).add j) = some u := fun w' S' j u hu => by
    obtain ⟨ad, h1, h2⟩ := ops_at (hB w' S') hlt
    rw [hB1] at h1; injection h1 with h1; subst h1
    rw [add_add]; exact h2 j u hu
  have hw := hW l[i] (List.getElem_mem hlt)
  skip; (repeat (with_reducible refine wp_seq ?_))
  refine wp_block ?_
  skip; (repeat (with_reducible refine wp_seq ?_))
  refine wp_region_sl [.one (0, true, some 17), .one (1, true, some 18), .one (2, true, some 19), .one (3, true, some 20), .one (4, true, some 21), .one (5, true, some 22), .one (6, true, some 23), .one (7, true, some 24), .one (8, true, some 25)]
                [.one ⟨true, some 17, (Go.Op.move (Go.Operand.tmp 0)), 37, none⟩,
                .one ⟨true, some 18, (Go.Op.move (Go.Operand.tmp 5)), 3, none⟩,
                .one ⟨true, some 19, (Go.Op.indexAddr 37 (Go.Operand.tmp 17) (Go.Operand.tmp 18)), 0, none⟩,
                .one ⟨true, some 20, (Go.Op.load 104 (Go.Operand.tmp 19)), 104, none⟩,
                .one ⟨true, some 21, (Go.Op.move (Go.Operand.tmp 1)), 37, none⟩,
                .one ⟨true, some 22, (Go.Op.move (Go.Operand.tmp 5)), 3, none⟩,
                .one ⟨true, some 23, (Go.Op.indexAddr 37 (Go.Operand.tmp 21) (Go.Operand.tmp 22)), 0, none⟩,
                .one ⟨true, some 24, (Go.Op.load 104 (Go.Operand.tmp 23)), 104, none⟩,
                .one ⟨true, some 25, (Go.Op.binOp Go.BinOp.neq 104 (Go.Operand.tmp 20) (Go.Operand.tmp 24) 104), 4, none⟩]
                (fun v => Sat w0 v R) rfl (by kernel_rfl) (by kernel_rfl) ?_ ?_
  · exact S.drew
  have S := S.drew
  (repeat (refine sl_run orcP_ok 1 rfl fr fun a fr => ?_))
  refine sl_ixe orcP_ok hA1 fr rfl rfl rfl rfl rfl rfl rfl rfl rfl ⟨by omega, by omega⟩ fun a fr => ?_
  refine sl_ldsub orcP_ok (cs := opV l[i]) hc1 (opV_ok hw) fr rfl rfl rfl rfl rfl rfl rfl rfl rfl fun a fr => ?_
  (repeat (refine sl_run orcP_ok 1 rfl fr fun a fr => ?_))
  refine sl_ixe orcP_ok hB1 fr rfl rfl rfl rfl rfl rfl rfl rfl rfl ⟨by omega, by omega⟩ fun a fr => ?_
  refine sl_ldsub orcP_ok (cs := opV l[i]) hc2 (opV_ok hw) fr rfl rfl rfl rfl rfl rfl rfl rfl rfl fun a fr => ?_
  refine sl_opneq hw fr rfl rfl rfl rfl rfl rfl rfl fun a fr => ?_
  refine sl_end ?_
  (repeat (with_reducible refine then_n ?_))
  skip; (repeat (with_reducible refine wp_seq ?_))
  refine cw_f fr rfl ?_
  refine wp_skip ?_
  (repeat (first | (with_reducible refine then_n ?_) | (with_reducible refine blk_n ?_)))
  skip; (repeat (with_reducible refine wp_seq ?_)); refine wp_region_lit ?_
  (repeat (refine wl_run orcP_ok 1 rfl fr fun a fr => ?_))
  refine wpList_nil ?_; (repeat (with_reducible refine then_n ?_))
  have fr := fr.spell (d := 5) rfl (congrArg (Value.int .i64) (i64_next hlt (by have h9 := ha.2; unfold maxLen at h9; omega)))
  exact ⟨i + 1, by omega, by omega, fr.sub ⟨rfl, rfl, rfl, trivial⟩, S⟩
theorem own_out {L : List Int} (hL : L ∈ seven) {G : Gl RsT} (h : One L G) {m : List (Int × Int)} {x : Int} {D : Dk} (s f t g : Int) (l : RsT) : ∀ o ∈ (cameO ⟨[G], m, x, D⟩ s f t g l).1, (1 ≤ o.2.1 ∧ o.2.1 ≤ 3) ∧ (o.2.2 ≠ 1 ∨ hasI L o.2.1 = true) := by
  have hsites := h.sites hL
  have hLs : ∀ n ∈ L, (1 ≤ n ∧ n ≤ 3) ∧ hasI L n = true := by
    intro n hn
    refine ⟨?_, by unfold hasI; exact List.any_eq_true.2 ⟨n, hn, by simp⟩⟩
    simp only [seven, List.mem_cons, List.not_mem_nil, or_false] at hL
    rcases hL with rfl | rfl | rfl | rfl | rfl | rfl | rfl <;> simp at hn <;> omega
  have hto : ∀ s g', ∀ o ∈ toM s g' L, (1 ≤ o.2.1 ∧ o.2.1 ≤ 3) ∧ (o.2.2 ≠ 1 ∨ hasI L o.2.1 = true) := by
    intro s g' o ho
    obtain ⟨n, hn, rfl⟩ := List.mem_map.1 ho
    exact ⟨(hLs n hn).1, .inr (hLs n hn).2⟩
  intro o ho
  unfold cameO at ho
  split at ho
  · cases ho
  · rename_i hbad
    have hf : 1 ≤ f ∧ f ≤ 3 := by
      unfold badMsg at hbad
      simp only [Bool.or_eq_true, decide_eq_true_eq, not_or] at hbad
      omega
    split at ho
    · cases ho
    · rw [show findG [G] g = if G.g = g then some (0, G) else none from find_one, h.g] at ho
      split at ho
      · rename_i hno
        have hg : g ≠ 1 := fun e => by rw [if_pos e.symm] at hno; cases hno
        split at ho
        · rw [List.mem_singleton] at ho
          subst ho
          exact ⟨hf, .inl hg⟩
        · cases ho
      · rename_i p hp
        have hpG : p.2 = G := by
          split at hp
          · injection hp with hp; rw [← hp]
          · cases hp
        rw [hpG] at ho
        have ho : o ∈ cameGO ⟨[G], m, x, D⟩ G s f l := ho
        obtain ⟨k, rfl⟩ : ∃ k : Nat, f = k := ⟨f.toNat, by omega⟩
        unfold cameGO at ho
        split at ho
        · cases ho
        · rename_i hkn
          have hpa : hasI L (k : Int) = true := by
            rw [Int.toNat_natCast, h.partAt hL (show k < 4 by omega), h.kn] at hkn
            simpa using hkn
          split at ho
          · unfold doingO at ho
            split at ho
            · rw [show sites allV (ofC (⟨[G], m, x, D⟩ : Ss RsT) G).G = L from hsites] at ho
              exact hto _ _ o ho
            · split at ho
              · cases ho
              · split at ho
                · cases ho
                · rw [show sites allV (voteG (ofC (⟨[G], m, x, D⟩ : Ss RsT) G).G (k : Int).toNat l) = L from (h.vote _ l).sites hL] at ho
                  exact hto _ _ o ho
          · split at ho
            · rw [List.mem_singleton] at ho
              subst ho
              exact ⟨hf, .inr hpa⟩
            · cases ho
theorem one_came {L : List Int} {G : Gl RsT} (h : One L G) {m : List (Int × Int)} {x : Int} {D : Dk} (s f t g : Int) (l : RsT) : ∃ G', (cameS ⟨[G], m, x, D⟩ s f t g l).gs = [G'] ∧ One L G' := by
  unfold cameS
  split
  · exact ⟨G, rfl, h⟩
  · split
    · exact ⟨G, rfl, h⟩
    · rw [show findG [G] g = if G.g = g then some (0, G) else none from find_one]
      split
      · exact ⟨G, rfl, h⟩
      · rename_i p hp
        have hpG : p = (0, G) := by
          split at hp
          · injection hp with hp; exact hp.symm
          · cases hp
        subst hpG
        unfold cameG
        split
        · exact ⟨G, rfl, h⟩
        · split
          · exact ⟨_, rfl, h.doing (C := ⟨G, m, x, D⟩) s f.toNat l⟩
          · split
            · exact ⟨G, rfl, h⟩
            · split
              · exact ⟨_, rfl, h.done f.toNat⟩
              · exact ⟨G, rfl, h⟩
def bmX (n : Int) (A : Option Addr) (c : Nat) (qs : List BM) : List Asn := rvA 42 6 A c qs.length (qs.flatMap (bmV n)) :: qs.map bmRow
theorem bm_open {w w0 : World} {R : List Asn} {n : Int} {A : Option Addr} {c : Nat} {pl : List (Int × List OpT)} (S : Sat w0 w (bmA n A c pl :: R)) : ∃ qs : List BM, qs.map (fun q => (q.1, q.2.2.2)) = pl ∧ Sat w0 w (bmX n A c qs ++ R) := by
  obtain ⟨⟨qs, hqs⟩, S⟩ := S.ofEx
  exact ⟨qs, hqs, Sat.ofAllT S⟩
theorem bm_read {w w0 : World} {R : List Asn} {n : Int} {A : Option Addr} {c i : Nat} {qs : List BM} (S : Sat w0 w (bmX n A c qs ++ R)) (hi : i < qs.length) : ∃ ad, A = some ad ∧ (∀ j u, (bmV n qs[i])[j]? = some u → w.cell? (ad.add (i * 6 + j)) = some u) ∧ RdOps w qs[i].2.1 qs[i].2.2.2 ∧ (bmV n qs[i]).all vok1 = true := by
  have S : Sat w0 w (rvA 42 6 A c qs.length (qs.flatMap (bmV n)) :: (qs.map bmRow ++ R)) := S
  obtain ⟨q1, q2, q3, q4, q5⟩ := Sat.rvAt S 0 rfl
  cases A with
  | none => have := q3 rfl; omega
  | some ad =>
    obtain ⟨g, rfl, hrg⟩ := q5 ad rfl
    have S2 := S.perm (List.Perm.cons _ (List.Perm.append_right R ((perm_takeT qs hi).map bmRow)))
    have hro := rd_ops S2 1 (show (_ :: bmRow qs[i] :: _)[1]? = _ from rfl)
    refine ⟨_, rfl, fun j u hu => ?_, hro, ?_⟩
    · have := hrg _ u (el_get (f := bmV n) (z := 6) (fun _ => rfl) qs i j u hi hu)
      rw [Nat.zero_add] at this
      rw [addr0]; exact this
    · rw [List.all_eq_true]
      intro v hv
      exact q4 v (List.mem_flatMap.2 ⟨qs[i], List.getElem_mem hi, hv⟩)
end Go.Proofs.YticnjkdaccacaaaGreat.Sx
end
