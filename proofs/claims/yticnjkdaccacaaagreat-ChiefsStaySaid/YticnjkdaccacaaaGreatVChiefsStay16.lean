/- Texts of this work, one behind the other. -/
import Derived.Test.YticnjkdaccacaaaGreatVChiefsStay15
import Derived.SizedLaws
import Derived.DeepKeys
import Derived.Laws.StructEq
set_option maxRecDepth 100000
set_option maxHeartbeats 16000000
section
namespace Go.Proofs.YticnjkdaccacaaaGreat.Sx
open Go Go.RowKit Base Oq OwnV Disk
theorem rdraw_nil (w : World) : RdRaw w none [] := ⟨fun i hi => by simp at hi, fun r hr => (by cases hr), fun r hr => (by cases hr)⟩
theorem raww_nil : RawW [] := ⟨fun r hr => (by cases hr), fun r hr => (by cases hr)⟩
section
variable {w w0 : World} {R : List Asn}
theorem came_plain {s f g : Int} {b bl bm bk bw bd : Nat} {last now x : Int} {m : List (Int × Int)} {gs : Gs} {D : Dk} (hs : (Lit.int .u8 s).wf = true) (hf : (Lit.int .u8 f).wf = true) (hg : (Lit.int .u32 g).wf = true) (hI : ∀ p ∈ gs, GlI p.2) (hb : (0 ≤ x ∧ x ≤ 4096) ∧ D.waits.length ≤ 100000000) (S : Sat w0 w (chW b bl bm last bk bw now bd gs m x D R)) :
  Calls Tryz.prog 12 #[.pointer (some ⟨b, 0, none⟩), .agg (mgV s f 0 g none 0 0 none 0 0).toArray] w fun e w' => ∃ (A' : Option Addr) (c' : Nat) (gs' : Gs), e = .returned (.tuple #[.slice A' (cameO (ss0 gs m x D) s f 0 g []).1.length (cameO (ss0 gs m x D) s f 0 g []).1.length, .int .i64 (cameO (ss0 gs m x D) s f 0 g []).2]) ∧ vok (.tuple #[.slice A' (cameO (ss0 gs m x D) s f 0 g []).1.length (cameO (ss0 gs m x D) s f 0 g []).1.length, .int .i64 (cameO (ss0 gs m x D) s f 0 g []).2]) = true ∧
   (gs'.map fun p => gl0 p.2) = (cameS (ss0 gs m x D) s f 0 g []).gs ∧ (∀ p ∈ gs', GlI p.2) ∧ keysG gs' = keysG gs ∧ Sat w0 w' (pmA A' c' (cameO (ss0 gs m x D) s f 0 g []).1 :: chW b bl bm last bk bw now bd gs' (cameS (ss0 gs m x D) s f 0 g []).m (cameS (ss0 gs m x D) s f 0 g []).x (cameS (ss0 gs m x D) s f 0 g []).D R) :=
 came_call (rs := []) (Ao := none) (Ar := none) (no := 0) (co := 0) (cr := 0) (t := 0) ⟨hs, hf, rfl, hg, ⟨Nat.le_refl _, Nat.zero_le _⟩, ⟨Nat.le_refl _, Nat.zero_le _⟩⟩ (fun w' _ => rdraw_nil w') raww_nil (by show 0 * 24 ≤ _; omega) (fun r hr => by cases hr) ⟨by show 0 * 24 ≤ _; omega, fun r hr => by cases hr⟩ hI hb S
theorem came_step {s f g z : Int} {b bl bm bk bw bd : Nat} {last now x : Int} {m : List (Int × Int)} {gs : Gs} {D : Dk} {C : Ss RsT} {os : List PM} (C' : Ss RsT) (hC : ss0 gs m x D = C) (hS : cameS C s f 0 g [] = C') (hO : cameO C s f 0 g [] = (os, z)) (hs : (Lit.int .u8 s).wf = true) (hf : (Lit.int .u8 f).wf = true) (hg : (Lit.int .u32 g).wf = true) (hI : ∀ p ∈ gs, GlI p.2) (hb : (0 ≤ x ∧ x ≤ 4096) ∧ D.waits.length ≤ 100000000) (S : Sat w0 w (chW b bl bm last bk bw now bd gs m x D R)) :
  Calls Tryz.prog 12 #[.pointer (some ⟨b, 0, none⟩), .agg (mgV s f 0 g none 0 0 none 0 0).toArray] w fun e w' => ∃ (A' : Option Addr) (c' : Nat) (gs' : Gs), e = .returned (.tuple #[.slice A' os.length os.length, .int .i64 z]) ∧ vok (.tuple #[.slice A' os.length os.length, .int .i64 z]) = true ∧ ss0 gs' C'.m C'.x C'.D = C' ∧ (∀ p ∈ gs', GlI p.2) ∧ keysG gs' = keysG gs ∧ Sat w0 w' (pmA A' c' os :: chW b bl bm last bk bw now bd gs' C'.m C'.x C'.D R) := by
 refine (came_plain hs hf hg hI hb S).mono ?_
 rintro e w' ⟨A', c', gs', h1, h2, h3, h4, h5, S⟩
 rw [hC, hS] at h3 S
 rw [hC, hO] at h1 h2
 rw [hO] at S
 exact ⟨A', c', gs', h1, h2, by unfold ss0; rw [h3], h4, h5, S⟩
theorem told_step {g : Int} {p : Bool} {ls : List RsT} {z : Int} {b bl bm bk bw bd : Nat} {last now x : Int} {m : List (Int × Int)} {gs : Gs} {D : Dk} {l : List (Gl RsT)} (hC : (gs.map fun p => gl0 p.2) = l) (hT : toldG l g = (p, ls, z)) (hg : (Lit.int .u32 g).wf = true) (hI : ∀ p ∈ gs, GlI p.2) (S : Sat w0 w (chW b bl bm last bk bw now bd gs m x D R)) :
  Calls Tryz.prog 14 #[.pointer (some ⟨b, 0, none⟩), .int .u32 g] w fun e w' => ∃ (A : Option Addr), e = .returned (.tuple #[.bool p, .slice A ls.length ls.length, .int .i64 z]) ∧ vok (.tuple #[.bool p, .slice A ls.length ls.length, .int .i64 z]) = true ∧ Sat w0 w' (chW b bl bm last bk bw now bd gs m x D R) := by
 refine (told_call hg (fun p hp => (hI p hp).len) (fun p hp => (hI p hp).few) S).mono ?_
 rintro e w' ⟨A, c, h1, h2, S⟩
 rw [hC, hT] at h1 h2 S
 exact ⟨A, h1, h2, S.tl⟩
theorem phase_step {g z : Int} {b bl bm bk bw bd : Nat} {last now x : Int} {m : List (Int × Int)} {gs : Gs} {D : Dk} {l : List (Gl RsT)} (hC : (gs.map fun p => gl0 p.2) = l) (hT : phaseG l g = z) (hg : (Lit.int .u32 g).wf = true) (S : Sat w0 w (chW b bl bm last bk bw now bd gs m x D R)) :
  Calls Tryz.prog 13 #[.pointer (some ⟨b, 0, none⟩), .int .u32 g] w fun e w' => e = .returned (.int .u8 z) ∧ vok (.int .u8 z) = true ∧ Sat w0 w' (chW b bl bm last bk bw now bd gs m x D R) := by
 have e1 : phaseG (gs.map (·.2)) g = z := by
  rw [← hT, ← hC]
  unfold phaseG
  rw [idx0]
  cases hi : idxG (gs.map (·.2)) g with
  | none => rfl
  | some j =>
   simp only [Option.bind_some, List.getElem?_map]
   cases gs[j]? <;> rfl
 have h := phase_call hg S
 rw [e1] at h
 exact h
theorem chthere_nil : Calls Tryz.prog 22 #[.pointer none] w fun e w' => e = .returned (.bool false) ∧ w' = w := by
 refine calls_start (N := 12) [.pointer none] Tryz.func22 rfl rfl rfl (vok_c rfl rfl) fun a fr => ?_
 refine r_ rfl ?_
 repeat refine w_ oCh_ rfl fr fun a fr => ?_
 refine er_ rfl rfl ?_
 repeat refine w_ oCh_ rfl fr fun a fr => ?_
 first | refine e_ ?_ | refine wpList_nil ?_
 refine wp_ret ?_
 exact ret1 fr rfl rfl ⟨rfl, rfl⟩
theorem tick_nil : Calls Tryz.prog 9 #[.pointer none] w fun e w' => e = .returned (.tuple #[.slice none 0 0, .int .i64 2]) ∧ w' = w := by
 refine calls_start (N := 64) [.pointer none] Tryz.func9 rfl rfl rfl (vok_c rfl rfl) fun a fr => ?_
 refine r_ rfl ?_
 repeat refine w_ oCh_ rfl fr fun a fr => ?_
 refine er_ rfl rfl ?_
 repeat refine w_ oCh_ rfl fr fun a fr => ?_
 refine wl_call fr rfl rfl rfl rfl enChThere chthere_nil ?_
 rintro _ w1 ⟨rfl, rfl⟩
 refine ⟨_, rfl, rfl, fun a fr => ?_⟩
 repeat refine w_ oCh_ rfl fr fun a fr => ?_
 refine eq_ rfl rfl ?_
 refine cw_t fr rfl ?_
 refine r_ rfl ?_
 repeat refine w_ oCh_ rfl fr fun a fr => ?_
 first | refine e_ ?_ | refine wpList_nil ?_
 refine wp_ret ?_
 try simp only [Exit.then, Exit.inBlock]
 exact ret2 fr rfl rfl rfl ⟨rfl, rfl⟩
theorem lives_call (S : Sat w0 w R) : Calls Tryz.prog 11 #[] w fun e w' => e = .returned (.bool true) ∧ Sat w0 w' R := by
 refine calls_start (N := 168) [] Tryz.func11 rfl rfl rfl rfl fun a fr => ?_
 refine r_ rfl ?_
 repeat refine w_ oCh_ rfl fr fun a fr => ?_
 refine er_ rfl rfl ?_
 repeat refine w_ oCh_ rfl fr fun a fr => ?_
 refine wl_call fr rfl rfl rfl rfl enOpened (opened_call S) ?_
 rintro _ w1 ⟨d, b, bl, bm, bk, bw, rfl, S⟩
 refine ⟨_, rfl, rfl, fun a fr => ?_⟩
 repeat refine w_ oCh_ rfl fr fun a fr => ?_
 refine er_ rfl rfl ?_
 repeat refine w_ oCh_ rfl fr fun a fr => ?_
 refine eq_ rfl rfl ?_
 refine cw_f fr rfl ?_
 refine wp_skip ?_
 with_reducible refine then_n ?_
 have fr := fr.sub (L' := [(2, .pointer (some ⟨b, 0, none⟩))]) ⟨rfl, trivial⟩
 have hopv : (opV xaT).all vok1 = true := rfl
 refine r_ rfl ?_
 refine wl_build (cs := opV xaT) (L2 := [(0, .int .u8 2), (1, .string ⟨#[97]⟩), (3, .int .u32 5)]) fr rfl rfl rfl rfl (by simp [Act.eval]) (by kernel_rfl) hopv fun a fr => ?_
 refine wl_lit1 (cs := opV xaT) (z := 4) Tryz.underlying37 (by kernel_rfl) rfl fr rfl rfl rfl rfl rfl rfl hopv S ?_
 intro w2 Ao co S a fr
 repeat refine w_ oCh_ rfl fr fun a fr => ?_
 first | refine e_ ?_ | refine wpList_nil ?_
 have hoq := (Sat.rvAt S 0 rfl).2.1
 have hsl : vok1 (.slice Ao 1 co) = true := vok_sl (A := Ao) hoq
 refine r_ rfl ?_
 repeat refine w_ oCh_ rfl fr fun a fr => ?_
 refine wl_build (cs := [.int .u8 1, .slice Ao 1 co]) (L2 := [(0, .int .u8 1), (1, .slice Ao 1 co)]) fr rfl rfl rfl rfl (by simp; exact ⟨rfl, (fr.ev (o := .tmp 34) rfl).1⟩) (by kernel_rfl) (show [Value.int .u8 1, .slice Ao 1 co].all vok1 = true by simp only [List.all_cons, List.all_nil, Bool.and_true, Bool.and_eq_true]; exact ⟨rfl, hsl⟩) fun a fr => ?_
 repeat refine w_ oCh_ rfl fr fun a fr => ?_
 refine wl_build (cs := [.int .u8 2, .slice Ao 1 co]) (L2 := [(0, .int .u8 2), (1, .slice Ao 1 co)]) fr rfl rfl rfl rfl (by simp; exact ⟨rfl, (fr.ev (o := .tmp 36) rfl).1⟩) (by kernel_rfl) (show [Value.int .u8 2, .slice Ao 1 co].all vok1 = true by simp only [List.all_cons, List.all_nil, Bool.and_true, Bool.and_eq_true]; exact ⟨rfl, hsl⟩) fun a fr => ?_
 refine wl_lit2 (u1 := .int .u8 1) (u2 := .slice Ao 1 co) (v1 := .int .u8 2) (v2 := .slice Ao 1 co) Tryz.underlying22 (by kernel_rfl) fr rfl rfl rfl rfl rfl rfl (by simp only [List.all_cons, List.all_nil, Bool.and_true, Bool.and_eq_true]; exact ⟨rfl, hsl, rfl, hsl⟩) S ?_
 intro w3 Ap S a fr
 have S := ((((((((S.frontAt 1 rfl).frontAt 1 rfl).frontAt 7 rfl).frontAt 7 rfl).frontAt 7 rfl).frontAt 7 rfl).frontAt 7 rfl).frontAt 7 rfl)
 have S : Sat w0 w3 (chW b bl bm 0 bk bw 0 d [] [] 0 D0 (rvA 39 2 Ap 2 2 [.int .u8 1, .slice Ao 1 co, .int .u8 2, .slice Ao 1 co] :: rvA 104 4 Ao co 1 (opV xaT) :: R)) := S
 have hparts : ∀ w', Sat w0 w' (rvA 39 2 Ap 2 2 [.int .u8 1, .slice Ao 1 co, .int .u8 2, .slice Ao 1 co] :: rvA 104 4 Ao co 1 (opV xaT) :: R) → RdParts w' Ap [(1, Ao, co, [xaT]), (2, Ao, co, [xaT])] := by
  intro w' S
  obtain ⟨q1, q2, q3, q4, q5⟩ := Sat.rvAt S 0 rfl
  have hro : RdOps w' Ao [xaT] := rd_ops S 1 rfl
  refine ⟨fun h => by have := q3 h; omega, fun i hi ad hA j u hu => ?_, fun p hp => ?_⟩
  ·obtain ⟨g, rfl, hrg⟩ := q5 ad hA
   have := hrg _ u (el_get (f := pcV) (z := 2) (fun _ => rfl) [(1, Ao, co, [xaT]), (2, Ao, co, [xaT])] i j u hi hu)
   rw [Nat.zero_add] at this
   rw [addr0]; exact this
  ·simp only [List.mem_cons, List.not_mem_nil, or_false] at hp
   rcases hp with rfl | rfl <;> exact hro
 have hpw : PartsW [(1, Ao, co, [xaT]), (2, Ao, co, [xaT])] := by
  have hx : ∀ x ∈ [xaT], OpW x := fun x hx => by
   have : x = xaT := by simpa using hx
   rw [this]
   exact ⟨rfl, by unfold maxLen; decide, Nat.zero_le _, rfl⟩
  refine ⟨fun p hp => ?_, fun p hp => ?_, fun p hp => ?_⟩ <;> (simp only [List.mem_cons, List.not_mem_nil, or_false] at hp; rcases hp with rfl | rfl)
  ·rfl
  ·rfl
  ·exact hoq
  ·exact hoq
  ·exact hx
  ·exact hx
 obtain ⟨hadd1, L1⟩ := LogI.start.add (r := beginR 1) (by decide) (by omega)
 refine wl_call fr rfl rfl rfl rfl enBegin (begin_call (ps := [(1, Ao, co, [xaT]), (2, Ao, co, [xaT])]) hparts hpw ⟨Nat.le_refl _, by unfold maxLen; decide⟩ (fun p hp => by cases hp) (Nat.zero_le _) (fun p hp => by cases hp) (LogI.start.b (Nat.zero_le _)) S) ?_
 rintro _ w4 (⟨h1, -⟩ | ⟨-, h2, -⟩ | ⟨-, -, h3, -⟩ | ⟨-, -, -, A4, c4, bn, rfl, hv4, hGI, S⟩)
 ·exact absurd (liv0.symm.trans h1) (by decide)
 ·exact absurd h2 (by decide)
 ·have h3 : (addEI D0 0 (beginR 1) != 0) = true := h3
  rw [hadd1] at h3
  exact absurd h3 (by decide)
 refine ⟨.tuple #[.int .u32 1, .slice A4 2 2, .int .i64 0], rfl, hv4, fun a fr => ?_⟩
 repeat refine w_ oCh_ rfl fr fun a fr => ?_
 first | refine e_ ?_ | refine wpList_nil ?_
 have S := Sat.behind S
 obtain ⟨x1, hx1⟩ : ∃ z, z = addXI D0 0 (beginR 1) := ⟨_, rfl⟩
 obtain ⟨D1, hD1⟩ : ∃ z, z = (addDI D0 0 (beginR 1)).sync := ⟨_, rfl⟩
 obtain ⟨R1, hR1⟩ : ∃ z, z = bmA 1 A4 c4 [(1, [xaT]), (2, [xaT])] :: rvA 39 2 Ap 2 2 [.int .u8 1, .slice Ao 1 co, .int .u8 2, .slice Ao 1 co] :: rvA 104 4 Ao co 1 (opV xaT) :: R := ⟨_, rfl⟩
 have L1 := L1.sync
 rw [← hx1, ← hD1] at L1
 have S : Sat w0 w4 (chW b bl bm 1 bk bw 0 d [(bn, newG zV 1 [1, 2])] [(1, 8)] x1 D1 R1) := by rw [hx1, hD1, hR1]; exact S
 have hC1 : ss0 [(bn, newG zV 1 [1, 2])] [(1, 8)] x1 D1 = ⟨[H1], [(1, 8)], x1, D1⟩ := rfl
 have hI1 : ∀ p ∈ [(bn, newG zV 1 [1, 2])], GlI p.2 := fun p hp => by
  have : p = (bn, newG zV 1 [1, 2]) := by simpa using hp
  rw [this]; exact hGI
 generalize [(bn, newG zV 1 [1, 2])] = gs1 at S hC1 hI1
 refine r_ rfl ?_
 repeat refine w_ oCh_ rfl fr fun a fr => ?_
 refine wl_build (cs := mgV 2 1 0 1 none 0 0 none 0 0) (L2 := [(0, .int .u8 2), (1, .int .u8 1), (3, .int .u32 1)]) fr rfl rfl rfl rfl (by simp [Act.eval]) (by kernel_rfl) rfl fun a fr => ?_
 refine wl_call fr rfl rfl rfl rfl enCame (came_step ⟨[H2], [(1, 8)], x1, D1⟩ hC1 (liv1 _ _ _).1 (liv1 _ _ _).2 rfl rfl rfl hI1 (L1.b (by omega)) S) ?_
 rintro _ w5 ⟨A5, c5, gs2, rfl, hv5, hC2, hI2, -, S⟩
 have S := S.tl
 refine ⟨.tuple #[.slice A5 0 0, .int .i64 0], rfl, hv5, fun a fr => ?_⟩
 repeat refine w_ oCh_ rfl fr fun a fr => ?_
 first | refine e_ ?_ | refine wpList_nil ?_
 have hC2 : ss0 gs2 [(1, 8)] x1 D1 = ⟨[H2], [(1, 8)], x1, D1⟩ := hC2
 refine r_ rfl ?_
 repeat refine w_ oCh_ rfl fr fun a fr => ?_
 refine wl_call fr rfl rfl rfl rfl enTold (told_step (p := false) (ls := []) (z := 7) (congrArg Ss.gs hC2) rfl rfl hI2 S) ?_
 rintro _ w6 ⟨A6, rfl, hv6, S⟩
 refine ⟨.tuple #[.bool false, .slice A6 0 0, .int .i64 7], rfl, hv6, fun a fr => ?_⟩
 repeat refine w_ oCh_ rfl fr fun a fr => ?_
 first | refine e_ ?_ | refine wpList_nil ?_
 obtain ⟨hadd2, L2⟩ := L1.add (r := [99, 0, 0, 0, 1, 1, 2]) (by decide) (by omega)
 refine r_ rfl ?_
 repeat refine w_ oCh_ rfl fr fun a fr => ?_
 refine wl_build (cs := mgV 2 2 0 1 none 0 0 none 0 0) (L2 := [(0, .int .u8 2), (1, .int .u8 2), (3, .int .u32 1)]) fr rfl rfl rfl rfl (by simp [Act.eval]) (by kernel_rfl) rfl fun a fr => ?_
 refine wl_call fr rfl rfl rfl rfl enCame (came_step _ hC2 (liv2 _ _ _ hadd2).1 (liv2 _ _ _ hadd2).2 rfl rfl rfl hI2 (L1.b (by omega)) S) ?_
 rintro _ w7 ⟨A7, c7, gs3, rfl, hv7, hC3, hI3, -, S⟩
 have S := Sat.behind S
 refine ⟨.tuple #[.slice A7 2 2, .int .i64 0], rfl, hv7, fun a fr => ?_⟩
 repeat refine w_ oCh_ rfl fr fun a fr => ?_
 first | refine e_ ?_ | refine wpList_nil ?_
 have L2 := L2.sync
 obtain ⟨x2, hx2⟩ : ∃ z, z = addXI D1 x1 [99, 0, 0, 0, 1, 1, 2] := ⟨_, rfl⟩
 obtain ⟨D2, hD2⟩ : ∃ z, z = (addDI D1 x1 [99, 0, 0, 0, 1, 1, 2]).sync := ⟨_, rfl⟩
 rw [← hx2, ← hD2] at L2 hC3 S
 have S : Sat w0 w7 (chW b bl bm 1 bk bw 0 d gs3 [] x2 D2 (pmA A7 c7 [(4, 1, 1), (4, 2, 1)] :: R1)) := S
 have hC3 : ss0 gs3 [] x2 D2 = ⟨[H3], [], x2, D2⟩ := hC3
 obtain ⟨R2, hR2⟩ : ∃ z, z = pmA A7 c7 [(4, 1, 1), (4, 2, 1)] :: R1 := ⟨_, rfl⟩
 rw [← hR2] at S
 refine r_ rfl ?_
 repeat refine w_ oCh_ rfl fr fun a fr => ?_
 refine wl_call fr rfl rfl rfl rfl enTold (told_step (p := true) (ls := [[], []]) (z := 0) (congrArg Ss.gs hC3) rfl rfl hI3 S) ?_
 rintro _ w8 ⟨A8, rfl, hv8, S⟩
 refine ⟨.tuple #[.bool true, .slice A8 2 2, .int .i64 0], rfl, hv8, fun a fr => ?_⟩
 repeat refine w_ oCh_ rfl fr fun a fr => ?_
 refine er_ rfl rfl ?_
 repeat refine w_ oCh_ rfl fr fun a fr => ?_
 refine wl_build (cs := mgV 6 1 0 1 none 0 0 none 0 0) (L2 := [(0, .int .u8 6), (1, .int .u8 1), (3, .int .u32 1)]) fr rfl rfl rfl rfl (by simp [Act.eval]) (by kernel_rfl) rfl fun a fr => ?_
 refine wl_call fr rfl rfl rfl rfl enCame (came_step _ hC3 (liv3 _ _ _).1 (liv3 _ _ _).2 rfl rfl rfl hI3 (L2.b (by omega)) S) ?_
 rintro _ w9 ⟨A9, c9, gs4, rfl, hv9, hC4, hI4, -, S⟩
 have S := S.tl
 refine ⟨.tuple #[.slice A9 0 0, .int .i64 0], rfl, hv9, fun a fr => ?_⟩
 first | refine e_ ?_ | refine wpList_nil ?_
 have hC4 : ss0 gs4 [] x2 D2 = ⟨[H4], [], x2, D2⟩ := hC4
 refine r_ rfl ?_
 repeat refine w_ oCh_ rfl fr fun a fr => ?_
 refine wl_call fr rfl rfl rfl rfl enPhase (phase_step (z := 3) (congrArg Ss.gs hC4) rfl rfl S) ?_
 rintro _ w10 ⟨rfl, hv10, S⟩
 refine ⟨_, rfl, hv10, fun a fr => ?_⟩
 repeat refine w_ oCh_ rfl fr fun a fr => ?_
 refine er_ rfl rfl ?_
 repeat refine w_ oCh_ rfl fr fun a fr => ?_
 refine wl_build (cs := mgV 6 2 0 1 none 0 0 none 0 0) (L2 := [(0, .int .u8 6), (1, .int .u8 2), (3, .int .u32 1)]) fr rfl rfl rfl rfl (by simp [Act.eval]) (by kernel_rfl) rfl fun a fr => ?_
 refine wl_call fr rfl rfl rfl rfl enCame (came_step _ hC4 (liv4 _ _ _).1 (liv4 _ _ _).2 rfl rfl rfl hI4 (L2.b (by omega)) S) ?_
 rintro _ w11 ⟨A11, c11, gs5, rfl, hv11, hC5, hI5, -, S⟩
 have S := S.tl
 refine ⟨.tuple #[.slice A11 0 0, .int .i64 0], rfl, hv11, fun a fr => ?_⟩
 first | refine e_ ?_ | refine wpList_nil ?_
 have hG5 : (gs5.map fun p => gl0 p.2) = [H5] := congrArg Ss.gs hC5
 refine r_ rfl ?_
 repeat refine w_ oCh_ rfl fr fun a fr => ?_
 refine wl_call fr rfl rfl rfl rfl enTold (told_step (p := false) (ls := []) (z := 6) hG5 rfl rfl hI5 S) ?_
 rintro _ w12 ⟨A12, rfl, hv12, S⟩
 refine ⟨.tuple #[.bool false, .slice A12 0 0, .int .i64 6], rfl, hv12, fun a fr => ?_⟩
 repeat refine w_ oCh_ rfl fr fun a fr => ?_
 refine er_ rfl rfl ?_
 repeat refine w_ oCh_ rfl fr fun a fr => ?_
 refine er_ rfl rfl ?_
 repeat refine w_ oCh_ rfl fr fun a fr => ?_
 refine wl_call fr rfl rfl rfl rfl enTickC tick_nil ?_
 rintro _ w13 ⟨rfl, rfl⟩
 refine ⟨_, rfl, rfl, fun a fr => ?_⟩
 repeat refine w_ oCh_ rfl fr fun a fr => ?_
 first | refine e_ ?_ | refine wpList_nil ?_
 have S2 := Sat.past S
 rw [hR2, hR1] at S2
 obtain ⟨ad4, A5', c5', hA4, hm0, -, -⟩ := bm_cell (i := 0) S2.tl (by decide)
 obtain ⟨ad4', A6', c6', hA4', hm1, -, -⟩ := bm_cell (i := 1) S2.tl (by decide)
 obtain rfl : ad4 = ad4' := by rw [hA4] at hA4'; injection hA4'
 obtain ⟨ad7, hA7, hm7⟩ := pm_cell (i := 0) S2 0 rfl (by decide)
 refine r_ rfl ?_
 repeat refine w_ oCh_ rfl fr fun a fr => ?_
 refine wl_ixe oCh_ hA4 fr rfl rfl rfl rfl rfl rfl rfl rfl ⟨by decide, by decide⟩ fun a fr => ?_
 repeat refine w_ oCh_ rfl fr fun a fr => ?_
 refine wl_ldf oCh_ (v := .int .u8 1) ⟨(show w13.cell? ((ad4.add (0 * 6)).add 0) = some (.int .u8 1) by rw [add_add]; exact hm0 0 _ rfl), rfl⟩ fr rfl rfl rfl rfl rfl rfl rfl fun a fr => ?_
 repeat refine w_ oCh_ rfl fr fun a fr => ?_
 refine wl_ixe oCh_ hA4 fr rfl rfl rfl rfl rfl rfl rfl rfl ⟨by decide, by decide⟩ fun a fr => ?_
 repeat refine w_ oCh_ rfl fr fun a fr => ?_
 refine wl_ldf oCh_ (v := .int .u8 1) ⟨(show w13.cell? ((ad4.add (0 * 6)).add 2) = some (.int .u8 1) by rw [add_add]; exact hm0 2 _ rfl), rfl⟩ fr rfl rfl rfl rfl rfl rfl rfl fun a fr => ?_
 repeat refine w_ oCh_ rfl fr fun a fr => ?_
 refine wl_ixe oCh_ hA4 fr rfl rfl rfl rfl rfl rfl rfl rfl ⟨by decide, by decide⟩ fun a fr => ?_
 repeat refine w_ oCh_ rfl fr fun a fr => ?_
 refine wl_ldf oCh_ (v := .int .u8 2) ⟨(show w13.cell? ((ad4.add (1 * 6)).add 2) = some (.int .u8 2) by rw [add_add]; exact hm1 2 _ rfl), rfl⟩ fr rfl rfl rfl rfl rfl rfl rfl fun a fr => ?_
 repeat refine w_ oCh_ rfl fr fun a fr => ?_
 refine wl_ixe oCh_ hA7 fr rfl rfl rfl rfl rfl rfl rfl rfl ⟨by decide, by decide⟩ fun a fr => ?_
 repeat refine w_ oCh_ rfl fr fun a fr => ?_
 refine wl_ldf oCh_ (v := .int .u8 4) ⟨(show w13.cell? ((ad7.add (0 * 6)).add 0) = some (.int .u8 4) by rw [add_add]; exact hm7 0 _ rfl), rfl⟩ fr rfl rfl rfl rfl rfl rfl rfl fun a fr => ?_
 repeat refine w_ oCh_ rfl fr fun a fr => ?_
 refine wl_call fr rfl rfl rfl rfl enPhase (phase_step (z := 4) hG5 rfl rfl S) ?_
 rintro _ w14 ⟨rfl, hv14, S⟩
 refine ⟨_, rfl, hv14, fun a fr => ?_⟩
 repeat refine w_ oCh_ rfl fr fun a fr => ?_
 first | refine e_ ?_ | refine wpList_nil ?_
 refine wp_ret ?_
 have S3 := Sat.past S
 rw [hR2, hR1] at S3
 exact ret1 fr rfl rfl ⟨rfl, S3.tl.tl.tl.tl⟩
end
def seven : List (List Int) := [[1], [2], [3], [1, 2], [1, 3], [2, 3], [1, 2, 3]]
theorem plan_seven {l : List PartT} (h : planOk l = true) : l.map (·.1) ∈ seven := by
 obtain ⟨h1, h2, h3⟩ := plan_ok h
 have h4 := plan_few h
 have hr : ∀ x ∈ l.map (·.1), 1 ≤ x ∧ x ≤ 3 := fun x hx => by
  obtain ⟨p, hp, rfl⟩ := List.mem_map.1 hx
  exact ⟨(h1 p hp).1, (h1 p hp).2.1⟩
 have hp : (l.map (·.1)).Pairwise (fun x y => x < y) := List.Pairwise.map _ (fun _ _ h => h) h2
 have hl : 0 < (l.map (·.1)).length ∧ (l.map (·.1)).length ≤ 3 := by rw [List.length_map]; exact ⟨h3, h4⟩
 generalize l.map (·.1) = L at hr hp hl
 match L, hr, hp, hl with
 | [a], hr, _, _ =>
  have := hr a (by simp)
  have : a = 1 ∨ a = 2 ∨ a = 3 := by omega
  rcases this with rfl | rfl | rfl <;> decide
 | [a, b], hr, hp, _ =>
  have h1 := hr a (by simp)
  have h2 := hr b (by simp)
  have h3 : a < b := by simpa using hp
  have : (a = 1 ∧ b = 2) ∨ (a = 1 ∧ b = 3) ∨ (a = 2 ∧ b = 3) := by omega
  rcases this with ⟨rfl, rfl⟩ | ⟨rfl, rfl⟩ | ⟨rfl, rfl⟩ <;> decide
 | [a, b, c], hr, hp, _ =>
  have h1 := hr a (by simp)
  have h2 := hr b (by simp)
  have h3 := hr c (by simp)
  simp only [List.pairwise_cons, List.mem_cons, List.not_mem_nil, or_false, forall_eq_or_imp, forall_eq] at hp
  have : a = 1 ∧ b = 2 ∧ c = 3 := by omega
  obtain ⟨rfl, rfl, rfl⟩ := this
  decide
 | [], _, _, hl => simp at hl
 | _ :: _ :: _ :: _ :: _, _, _, hl => simp at hl
end Go.Proofs.YticnjkdaccacaaaGreat.Sx
end
section
namespace Go.Proofs.YticnjkdaccacaaaGreat.Base
open Go Go.RowKit Go.ChangeShapes Go.WideShapes
namespace Rdr
def smT {α : Type} : α → Prop := fun _ => True
def smB {α : Type} (B : Nat) (s : α → Prop) : List α → Prop := fun l => l.length * B ≤ 140737488351232 ∧ ∀ y ∈ l, s y
def smP {α β : Type} (s : α → Prop) (t : β → Prop) : α × β → Prop := fun x => s x.1 ∧ t x.2
def OfS (P : Program) (t : TypeId) {α : Type} (r : Rdr α) (s : α → Prop) : Prop :=
 P.cellsOf t = r.sz ∧ ∀ (H : Type) (enc : TypeId × Value → H) (w : World) (base : Nat) (spare : Nat → Bool) (held : Bool) (fuel : Nat) (cs : List Value) (x : DataW H × List MemPlace),
  DataW.trod enc P w base spare held fuel t cs = some x → ∃ y, r.R w cs y ∧ ((∀ n ∈ x.1.weights P t, n ≤ reachBytes) → s y)
section
variable {P : Program} {t : TypeId}
theorem ofS {α : Type} {r : Rdr α} (h : Of P t r) : OfS P t r smT := ⟨h.1, fun H enc w base spare held fuel cs x hx => by
 obtain ⟨y, hy⟩ := h.2 H enc w base spare held fuel cs x hx
 exact ⟨y, hy, fun _ => trivial⟩⟩
theorem all_mem {H : Type} {e : TypeId} : ∀ {l : List (DataW H)} {d : DataW H}, d ∈ l → ∀ n ∈ d.weights P e, n ∈ DataW.weightsAll P e l := by
 intro l
 induction l with
 | nil => intro d hd; cases hd
 | cons c l ih =>
  intro d hd n hn
  simp only [DataW.weightsAll, List.mem_append]
  rcases List.mem_cons.1 hd with rfl | hd
  ·exact .inl hn
  ·exact .inr (ih hd n hn)
theorem ofB_sl {α : Type} {r : Rdr α} {s : α → Prop} {e : TypeId} (ht : P.underlying t = some (.slice e)) (hc : P.cellsOf t = 1) (he : OfS P e r s) {B : Nat} (hB : P.bytesOf e = B) (hB0 : 0 < B) : OfS P t (sl r) (smB B s) := by
 refine ⟨hc, fun H enc w base spare held fuel cs x h => ?_⟩
 rcases Deep.open_slice ht h with ⟨rfl, _⟩ | ⟨a, len, cap, m, n, D, Pl, rfl, hb, hl, hm, hmm, hxe, hx⟩
 ·exact ⟨[], ⟨none, 0, rfl, Nat.le_refl _, Nat.zero_le _, fun h => absurd rfl h⟩, fun _ => ⟨by show 0 * B ≤ _; omega, fun y hy => by cases hy⟩⟩
 ·rw [he.1] at hx
  have hlm : len ≤ m := by rw [hmm]; split <;> omega
  have hex : ∀ i, i < len → ∃ y c, w.cells? base (a.add (i * r.sz)) r.sz = some c ∧ r.R w c y ∧ ((∀ n ∈ (D i).weights P e, n ≤ reachBytes) → s y) := by
   intro i hi
   obtain ⟨c, h1, h2⟩ := hx i (by omega)
   obtain ⟨y, hy, hs⟩ := he.2 H enc w base spare held n _ _ h2
   exact ⟨y, c, h1, hy, hs⟩
  obtain ⟨f, hf⟩ : ∃ f : Fin len → α, ∀ i : Fin len, ∃ c, w.cells? base (a.add (i.val * r.sz)) r.sz = some c ∧ r.R w c (f i) ∧ ((∀ n ∈ (D i.val).weights P e, n ≤ reachBytes) → s (f i)) :=
   ⟨fun i => (hex i.val i.isLt).choose, fun i => (hex i.val i.isLt).choose_spec⟩
  refine ⟨List.ofFn f, ⟨some a, cap, by simp, by simp; exact hl, hm, fun hne => ⟨a, rfl, fun hp => ?_, fun i y hy => ?_⟩⟩, fun hw => ⟨?_, fun y hy => ?_⟩⟩
  ·have hpos : 0 < len := by
    rcases Nat.eq_zero_or_pos len with h0 | h0
    ·subst h0; simp at hne
    ·exact h0
   obtain ⟨c, h1, h2, _⟩ := hf ⟨0, hpos⟩
   obtain ⟨_, hlen, hcell⟩ := World.cells?_some h1
   have h3 := hcell 0 (by omega)
   rw [List.getElem?_eq_getElem (by omega)] at h3
   have h4 := World.block_lt_of_cell? w _ h3
   rw [add_block, add_block] at h4
   exact h4
  ·have hi : i < len := by
    have := (List.getElem?_eq_some_iff.1 hy).1; simpa using this
   have h2 := (List.getElem?_eq_some_iff.1 hy).2
   rw [List.getElem_ofFn] at h2
   obtain ⟨c, h3, h4, _⟩ := hf ⟨i, hi⟩
   rw [h2] at h4
   refine ⟨c, h4, fun j u hu => ?_⟩
   obtain ⟨_, hlen, hcell⟩ := World.cells?_some h3
   have hj : j < r.sz := by have := (List.getElem?_eq_some_iff.1 hu).1; omega
   have h5 := hcell j hj
   rw [add_add] at h5
   rw [h5]; exact hu
  ·rw [List.length_ofFn]
   subst hxe
   have h1 := hw ((((List.range len).map D).length + ((List.range (m - len)).map fun j => D (len + j)).length) * P.bytesOf e) (by simp only [DataW.weights, ht]; exact List.mem_cons_self)
   rw [List.length_map, List.length_range, hB] at h1
   have h2 : len * B ≤ (len + ((List.range (m - len)).map fun j => D (len + j)).length) * B := Nat.mul_le_mul_right _ (Nat.le_add_right _ _)
   have h3 : reachBytes ≤ 140737488351232 := by decide
   omega
  ·obtain ⟨i, hi, rfl⟩ := List.getElem_of_mem hy
   rw [List.length_ofFn] at hi
   rw [List.getElem_ofFn]
   obtain ⟨c, _, _, h4⟩ := hf ⟨i, hi⟩
   refine h4 fun n hn => hw n ?_
   subst hxe
   simp only [DataW.weights, ht]
   exact List.mem_cons_of_mem _ (List.mem_append_left _ (all_mem (List.mem_map.2 ⟨i, List.mem_range.2 hi, rfl⟩) n hn))
def OfFS (P : Program) (fs : List Field) (off : Nat) {α : Type} (r : Rdr α) (s : α → Prop) : Prop :=
 ∀ (H : Type) (enc : TypeId × Value → H) (w : World) (base : Nat) (spare : Nat → Bool) (held : Bool) (fuel : Nat) (cs : List Value) (xs : List (DataW H × List MemPlace)),
  cs.length = off + r.sz → (fs.mapM fun f => DataW.trod enc P w base spare held fuel f.type ((cs.drop f.offset).take (P.cellsOf f.type))) = some xs → ∃ y, r.R w (cs.drop off) y ∧ ((∀ n ∈ DataW.weightsEach P (fs.map (·.type)) (xs.map (·.1)), n ≤ reachBytes) → s y)
theorem ofFS_nil (off : Nat) : OfFS P [] off unit smT := by
 intro H enc w base spare held fuel cs xs hl _
 exact ⟨(), List.drop_eq_nil_of_le (by rw [hl]; exact Nat.le_refl _), fun _ => trivial⟩
theorem ofFS_cons {α β : Type} {r : Rdr α} {s : Rdr β} {f : Field} {fs : List Field} {off : Nat} {s1 : α → Prop} {s2 : β → Prop} (hf : f.offset = off) (hr : OfS P f.type r s1) (hs : OfFS P fs (off + r.sz) s s2) : OfFS P (f :: fs) off (pair r s) (smP s1 s2) := by
 intro H enc w base spare held fuel cs xs hl h
 have hl' : cs.length = off + (r.sz + s.sz) := hl
 simp only [List.mapM_cons, Option.bind_eq_bind, Option.bind_eq_some_iff] at h
 obtain ⟨x, h1, ys, h2, h3⟩ := h
 injection h3 with h3
 rw [hf, hr.1] at h1
 obtain ⟨a, ha, ha2⟩ := hr.2 H enc w base spare held fuel _ _ h1
 obtain ⟨b, hb, hb2⟩ := hs H enc w base spare held fuel cs ys (by omega) h2
 refine ⟨(a, b), ⟨(cs.drop off).take r.sz, cs.drop (off + r.sz), ?_, ha, hb⟩, fun hw => ⟨ha2 fun n hn => hw n ?_, hb2 fun n hn => hw n ?_⟩⟩
 ·rw [← List.drop_drop, List.take_append_drop]
 ·rw [← h3]
  simp only [List.map_cons, DataW.weightsEach, List.mem_append]
  exact .inl hn
 ·rw [← h3]
  simp only [List.map_cons, DataW.weightsEach, List.mem_append]
  exact .inr hn
theorem ofS_st {α : Type} {r : Rdr α} {s : α → Prop} {fs : Array Field} (ht : P.underlying t = some (.struct fs)) (hc : P.cellsOf t = r.sz) (hF : OfFS P fs.toList 0 r s) : OfS P t r s := by
 refine ⟨hc, fun H enc w base spare held fuel cs x h => ?_⟩
 cases fuel with
 | zero => simp [DataW.trod] at h
 | succ n =>
  unfold DataW.trod at h
  rw [ht] at h
  simp only at h
  split at h
  ·rename_i hl
   simp only [Option.map_eq_some_iff] at h
   obtain ⟨xs, hxs, hx⟩ := h
   obtain ⟨y, hy, hy2⟩ := hF H enc w base spare held n cs xs (by rw [hl, hc]; omega) hxs
   refine ⟨y, by simpa using hy, fun hw => hy2 fun k hk => hw k ?_⟩
   rw [← hx]
   simp only [DataW.weights, ht]
   exact hk
  ·cases h
theorem ofS_slice_arg {α : Type} {r : Rdr α} {s : List α → Prop} {H : Type} {enc : TypeId × Value → H} {w : World} {base : Nat} {spare : Nat → Bool} {held : Bool} {A : Option Addr} {len cap : Nat} {d : DataW H} {ps : List MemPlace} {ts : List TypeId} {ds : List (DataW H)} {j : Nat}
  (hsz : (DataW.weightsEach P ts ds).all (· ≤ reachBytes) = true) (hj : ts[j]? = some t) (hd' : ds[j]? = some d) (h : OfS P t (sl r) s) (hd : DataW.Trod enc P w base spare held t (.slice A len cap) d ps) :
  ∃ l : List α, l.length = len ∧ len ≤ cap ∧ cap ≤ maxLen ∧ Row r w A l ∧ s l := by
 obtain ⟨fuel, hf⟩ := hd
 obtain ⟨l, ⟨A', cap', e, h1, h2, h3⟩, h4⟩ := h.2 H enc w base spare held fuel _ _ hf
 simp only [Value.cells, List.cons.injEq, and_true] at e
 injection e with e1 e2 e3
 subst e1 e2 e3
 exact ⟨l, rfl, h1, h2, h3, h4 fun n hn => of_decide_eq_true (List.all_eq_true.1 hsz n (DataW.weights_mem_each hj hd' n hn))⟩
end
end Rdr
end Go.Proofs.YticnjkdaccacaaaGreat.Base
end
section
namespace Go.Proofs.YticnjkdaccacaaaGreat.Sx
open Go Go.RowKit Base Oq OwnV Disk
section
variable {P : Program} {T : Orc} {Q : Exit → Act → World → Prop} {S' : World → Prop} {Df : List Deferred} {N : Nat} {a : Act} {w : World} {L : Env}
theorem sl_ixe (hT : T.Ok P) {s : SOp} {rest : List Itm} {t : TypeId} {x ix : Operand} {d n c e z : Nat} {A : Option Addr} {ad : Addr} {ki : IntKind} {i : Int} (hA : A = some ad) (fr : FrD Df N a L) (hw : wantS L s = some true) (hq : s.q = true) (ho : s.op = .indexAddr t x ix) (hd : s.dst = some d) (hlt : Nat.blt d N = true) (hx : ev L x = some (.slice A n c)) (hi : ev L ix = some (.int ki i))
  (ht : T.ty.lookup t = some (.slice e)) (hs : T.sz.lookup e = some z) (hb : 0 ≤ i ∧ i < (n : Int)) (h : ∀ a', FrD Df N a' ((d, .pointer (some (ad.add (i.toNat * z)))) :: L) → SL P Q S' rest a' w) : SL P Q S' (.one s :: rest) a w := by
 subst hA
 exact sl_q fr hw hq hd hlt (fun w' _ => indexAddr_run hT fr (o := s.oper) ho hx hi ht hs hb.1 hb.2 w') rfl h
end
theorem parts_of {w : World} {A : Option Addr} {l : List PartT} (h : Rdr.Row partR w A l) : ∃ ps : List RawP, ps.map partOf = l ∧ PartsW ps ∧ RdParts w A ps := by
 obtain ⟨ps, h1, h2⟩ := choose_list (n := l.length) (p := fun i (p : RawP) => ∃ hi : i < l.length, partOf p = l[i] ∧ (Lit.int .u8 p.1).wf = true ∧ (p.2.2.2.length ≤ p.2.2.1 ∧ p.2.2.1 ≤ maxLen) ∧ Rdr.Row opR w p.2.1 p.2.2.2 ∧ ∃ ad, A = some ad ∧ ∀ j u, (pcV p)[j]? = some u → w.cell? (ad.add (i * 2 + j)) = some u) (fun i hi => by
  obtain ⟨cs, h1, ad, hA, hc⟩ := row_get h hi
  obtain ⟨A', c', rfl, hk, hm, hro⟩ := part_of h1
  exact ⟨(l[i].1, A', c', l[i].2.1), hi, rfl, hk, hm, hro, ad, hA, hc⟩)
 have hm : ps.map partOf = l := by
  apply List.ext_getElem
  ·rw [List.length_map, h1]
  ·intro i q1 q2
   rw [List.getElem_map]
   exact (h2 i (by simpa using q1)).2.1
 have hmem : ∀ p ∈ ps, (Lit.int .u8 p.1).wf = true ∧ (p.2.2.2.length ≤ p.2.2.1 ∧ p.2.2.1 ≤ maxLen) ∧ Rdr.Row opR w p.2.1 p.2.2.2 := fun p hp => by
  obtain ⟨i, hi, rfl⟩ := List.mem_iff_getElem.1 hp
  exact ⟨(h2 i hi).2.2.1, (h2 i hi).2.2.2.1, (h2 i hi).2.2.2.2.1⟩
 refine ⟨ps, hm, ⟨fun p hp => (hmem p hp).1, fun p hp => (hmem p hp).2.1, fun p hp x hx => ?_⟩, ⟨fun hA => ?_, fun i hi ad hA => ?_, fun p hp => ⟨fun hA => ?_, ?_⟩⟩⟩
 ·obtain ⟨i, hi, rfl⟩ := List.mem_iff_getElem.1 hx
  obtain ⟨cs, h1, _⟩ := row_get (hmem p hp).2.2 hi
  exact (op_of h1).2
 ·have : l = [] := by rw [hA] at h; exact row_none h
  rw [this] at hm
  simpa using hm
 ·obtain ⟨ad', hA', hc⟩ := (h2 i hi).2.2.2.2.2
  rw [hA] at hA'
  injection hA' with hA'
  subst hA'
  exact hc
 ·have := (hmem p hp).2.2
  rw [hA] at this
  exact row_none this
 ·exact flat_cells (r := opR) (z := 4) rfl (by decide) (fun _ => rfl) (fun w cs x hx => (op_of hx).1) (hmem p hp).2.2
theorem RdParts.below {w w' : World} {A : Option Addr} {ps : List RawP} (h : RdParts w A ps) (hb : Below w.heap.size w w') : RdParts w' A ps :=
 ⟨h.none, fun i hi ad hA j u hu => RR.cellAt hb (h.cell i hi ad hA j u hu), fun p hp => ⟨(h.ops p hp).none, fun ad hA j u hu => RR.cellAt hb ((h.ops p hp).cell ad hA j u hu)⟩⟩
section
variable {w w0 : World} {R : List Asn} {b bl bm bk bw bd : Nat} {last now x : Int} {m : List (Int × Int)} {gs : Gs} {D : Dk}
theorem tick_step {C C' : Ss RsT} {os : List PM} {now' : Int} (hC : ss0 gs m x D = C) (hn : IntKind.wrap .i64 (now + 1) = now') (hT : tickAll C now' = (C', os)) (hI : ∀ p ∈ gs, GlI p.2) (hm : m.length ≤ 1000) (hgs : gs.length ≤ 1000) (S : Sat w0 w (chW b bl bm last bk bw now bd gs m x D R)) :
  Calls Tryz.prog 9 #[.pointer (some ⟨b, 0, none⟩)] w fun e w' => ∃ (A' : Option Addr) (c' : Nat) (gs' : Gs), e = .returned (.tuple #[.slice A' os.length os.length, .int .i64 0]) ∧ vok (.tuple #[.slice A' os.length os.length, .int .i64 0]) = true ∧ ss0 gs' C'.m x D = C' ∧ (∀ p ∈ gs', GlI p.2) ∧ keysG gs' = keysG gs ∧ Sat w0 w' (pmA A' c' os :: chW b bl bm last bk bw now' bd gs' C'.m x D R) := by
 refine (tick_call hI hm hgs S).mono ?_
 rintro e w' ⟨A', c', gs', h1, h2, h3, h4, h5, S⟩
 rw [hn, hC, hT] at h1 h2 h3 S
 exact ⟨A', c', gs', h1, h2, h3, h4, h5, S⟩
end
abbrev MsgT := Int × Int × Int × Int × List OpT × RsT × Unit
abbrev msgR : Rdr MsgT := Rdr.pair (Rdr.int .u8) (Rdr.pair (Rdr.int .u8) (Rdr.pair (Rdr.int .u8) (Rdr.pair (Rdr.int .u32) (Rdr.pair (Rdr.sl opR) (Rdr.pair (Rdr.sl resR) Rdr.unit)))))
def parts4 (L : List Int) : List Bool := (newG hz0 1 L).v.map (·.part)
theorem part_upd {f : Vt RsT → Vt RsT} (h : ∀ v, (f v).part = v.part) (k : Nat) (l : List (Vt RsT)) : (updV f k l).map (·.part) = l.map (·.part) := upd_map (f := fun (_ : RsT) => true) (F := fun v : Vt RsT => v.part) h k l
theorem sites_map : ∀ (l : List (Vt RsT)) (i : Nat), sitesFrom allV i l = ((l.map (·.part)).zipIdx i).filterMap fun p => if p.1 = true then some (p.2 : Int) else none := by
 intro l
 induction l with
 | nil => intro i; rfl
 | cons v r ih =>
  intro i
  unfold sitesFrom
  rw [List.map_cons, List.zipIdx_cons, List.filterMap_cons, ih (i + 1)]
  have e : (v.part && allV v) = v.part := by unfold allV; simp
  rw [e]
  cases v.part <;> rfl
def ofL (L : List Int) (code f g : Int) : Bool := hasI L f && (code == 0 && g == 1)
def st1 (L : List Int) (s f g code st : Int) : Int := if (ofL L code f g && (st == 0 && s == 3)) = true then 2 else st
section
variable {w w0 : World} {R : List Asn} {b bl bm bk bw bd : Nat} {last now x : Int} {m : List (Int × Int)} {gs : Gs} {D : Dk}
theorem before_perm (X : Asn) : (chW b bl bm last bk bw now bd gs m x D (X :: R)).Perm (X :: chW b bl bm last bk bw now bd gs m x D R) :=
 List.perm_middle (l₁ := chS b bl bm last bk :: logA bl bd x :: diskA bd D :: ckS bk bw now :: ckM bw m :: glM bm gs :: gsT gs) (a := X) (l₂ := R)
theorem Sat.before {X : Asn} (S : Sat w0 w (chW b bl bm last bk bw now bd gs m x D (X :: R))) : Sat w0 w (X :: chW b bl bm last bk bw now bd gs m x D R) := S.perm (before_perm X)
end
section
variable {P : Program} {T : Orc} {Q : Exit → Act → World → Prop} {S' : World → Prop} {Df : List Deferred} {N : Nat} {a : Act} {w w0 : World} {L : Env}
end
theorem ops_at {w : World} {A : Option Addr} {l : List OpT} (h : RdOps w A l) {i : Nat} (hi : i < l.length) : ∃ ad, A = some ad ∧ ∀ j u, (opV l[i])[j]? = some u → w.cell? (ad.add (i * 4 + j)) = some u := by
 obtain ⟨ad, hA⟩ := h.some hi
 exact ⟨ad, hA, fun j u hu => h.cell ad hA _ u (el_get (f := opV) (z := 4) (fun _ => rfl) l i j u hi hu)⟩
end Go.Proofs.YticnjkdaccacaaaGreat.Sx
end
