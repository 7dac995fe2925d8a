/- Texts of this work, one behind the other. -/
import Derived.Test.YticnjkdaccacaaaGreatVChiefsGone17
import Derived.Test.YticnjkdaccacaaaGreatRows
import Derived.WalkKit
import Derived.ProofKit
import Derived.OpenShut
import Derived.ShutString
import Derived.ChangeOld
import Derived.Below
import Derived.SizedLaws
import Derived.KernelRfl
section
namespace Go.Proofs.YticnjkdaccacaaaGreat.Sx
open Go Go.RowKit Base _root_.Go.Proofs.YticnjkdaccacaaaGreat.Own OwnV Disk
theorem enFailD : Enters Tryz.prog 17 := fun _ _ => by kernel_rfl
def gW (L : List Int) (j : Nat) : Gl RsT := if j < L.length then gV L j else commitG (gV L j)
theorem came_vote {L : List Int} (hL : L ∈ seven) {j : Nat} (hj : j < L.length) {m : List (Int × Int)} {x : Int} {D : Dk} {A B : List Rc} {k : Nat} (h : St A B ⟨[gW L j], m, x, D⟩ k) (hk : k < 4096) : (cameS ⟨[gW L j], m, x, D⟩ 2 (L.getD j 0) 0 1 []).gs = [gW L (j + 1)] := by
  have e1 : gW L j = gV L j := by unfold gW; rw [if_pos hj]
  rw [e1] at h ⊢
  by_cases h2 : j + 1 < L.length
  · obtain ⟨e2, -⟩ := came_yes hL h2 m x D
    rw [e2]
    unfold gW
    rw [if_pos h2]
  · have hj3 : j + 1 = L.length := by omega
    have hl : (cameS ⟨[gV L j], m, x, D⟩ 2 (L.getD j 0) 0 1 []).gs = [commitM (gV L (j + 1)) D x] := by
      have h3 : j = 0 ∨ j = 1 ∨ j = 2 := by have := (seven_len hL).2; omega
      simp only [seven, List.mem_cons, List.not_mem_nil, or_false] at hL
      rcases hL with rfl | rfl | rfl | rfl | rfl | rfl | rfl <;> rcases h3 with rfl | rfl | rfl <;> first | rfl | (simp at hj3)
    have hR : commitR (gV L (j + 1)) = rcB (99, 1, L) := by
      obtain ⟨q1, -, -, q4⟩ := gV_is hL (i := j + 1) (by omega)
      unfold commitR rcB
      rw [q1, q4]
    have hok : commitOk (gV L (j + 1)) D x = true := by
      obtain ⟨ha, -⟩ := h.log.add (r := (99, 1, L)) (by
        have := seven_len hL
        unfold rcB
        simp only [List.length_cons, List.length_append, fourL_len]
        omega) (by have := h.few; omega)
      unfold commitOk
      rw [hR]
      rw [show addEI D x (rcB (99, 1, L)) = 0 from ha]
      rfl
    rw [hl]
    unfold gW commitM
    rw [hok, if_pos rfl, if_neg (show ¬ j + 1 < L.length by omega)]
theorem gW_is {L : List Int} (hL : L ∈ seven) {j : Nat} (hj : j ≤ L.length) : (gW L j).g = 1 ∧ (gW L j).com = (j == L.length) ∧ (gW L j).v.map (·.part) = parts4 L := by
  have hp : (gV L j).v.map (·.part) = parts4 L := by
    have h3 : j = 0 ∨ j = 1 ∨ j = 2 ∨ j = 3 := by have := (seven_len hL).2; omega
    simp only [seven, List.mem_cons, List.not_mem_nil, or_false] at hL
    rcases hL with rfl | rfl | rfl | rfl | rfl | rfl | rfl <;> rcases h3 with rfl | rfl | rfl | rfl <;> rfl
  obtain ⟨q1, -, q3, -⟩ := gV_is hL hj
  unfold gW
  split
  · exact ⟨q1, by rw [q3]; symm; simp; omega, hp⟩
  · exact ⟨q1, by show true = _; symm; simp; omega, hp⟩
structure GoneI (L : List Int) (com : Bool) (G : Gl RsT) : Prop where
  g : G.g = 1
  com : G.com = com
  ph : G.ph ≠ 1
  told : G.told = false
  part : G.kn = true → G.v.map (·.part) = parts4 L
theorem GoneI.tells {L : List Int} {com : Bool} {G : Gl RsT} (h : GoneI L com G) : toldG [G] 1 = (com, [], 0) := by
  unfold toldG idxG
  rw [if_pos h.g]
  show (if (G.ph == 1) = true then (false, [], 7) else if (!G.com || !G.told) = true then (G.com, [], 0) else _) = _
  rw [if_neg (by simpa using h.ph), h.told, if_pos (by simp), h.com]
theorem GoneI.came {L : List Int} (hL : L ∈ seven) {com : Bool} {G : Gl RsT} (h : GoneI L com G) {s f : Int} (hs : s = 2 ∨ s = 7) (hf : f ∈ L) (m : List (Int × Int)) (x : Int) (D : Dk) : cameS ⟨[G], m, x, D⟩ s f 0 1 [] = ⟨[G], m, x, D⟩ ∧ cameO ⟨[G], m, x, D⟩ s f 0 1 [] = ([((if com = true then 4 else 5), f, 1)], 0) := by
  have hf3 : 1 ≤ f ∧ f ≤ 3 := by
    simp only [seven, List.mem_cons, List.not_mem_nil, or_false] at hL
    rcases hL with rfl | rfl | rfl | rfl | rfl | rfl | rfl <;> simp at hf <;> omega
  have hbad : badMsg f 0 1 = false := by unfold badMsg; rw [decide_eq_false (by omega), decide_eq_false (by omega)]; rfl
  have hsay : sayOk s = true := by rcases hs with rfl | rfl <;> rfl
  have hask : asks s = true := by rcases hs with rfl | rfl <;> rfl
  have hfd : findG [G] 1 = some (0, G) := by rw [find_one, if_pos h.g]
  have hkp : (G.kn && !partAt G f.toNat) = false := by
    cases hk : G.kn with
    | false => rfl
    | true =>
      rw [part_of_ hL (h.part hk) (by rw [Int.toNat_of_nonneg (by omega)]; exact hf)]
      rfl
  unfold cameS cameO
  rw [if_neg (by rw [hbad]; decide), if_neg (by rw [hsay]; decide), if_neg (by rw [hbad]; decide), if_neg (by rw [hsay]; decide)]
  simp only [hfd]
  unfold cameG cameGO
  rw [if_neg (by rw [hkp]; decide), if_neg (by simpa using h.ph), if_pos hask, if_neg (by rw [hkp]; decide), if_neg (by simpa using h.ph), if_pos hask, h.com, h.g]
  exact ⟨rfl, rfl⟩
theorem GoneI.of {L : List Int} {com : Bool} {G GL : Gl RsT} (h1 : G.g = 1) (h2 : G.com = com) (h3 : G.v.map (·.part) = parts4 L) (hl : LrI GL) (hr : RelG GL G) : GoneI L com GL := by
  refine ⟨hr.g.trans h1, hr.com.trans h2, ?_, ?_, ?_⟩
  · cases hc : GL.com with
    | true => rcases (hl.c hc).2.1 with h | h <;> omega
    | false => rw [hl.o hc]; show (4 : Int) ≠ 1; decide
  · cases hc : GL.com with
    | true => exact (hl.c hc).2.2.1
    | false => rw [hl.o hc]; rfl
  · intro hk
    cases hc : GL.com with
    | true => exact (hr.pt (hr.com.symm.trans hc)).trans h3
    | false => rw [hl.o hc] at hk; cases hk
set_option maxRecDepth 100000 in
set_option maxHeartbeats 16000000 in
theorem gone_call {w : World} {Ap : Option Addr} {cp : Nat} {ps : List RawP} {a1 a2 : Int} (hR : ∀ w', Sat w w' [] → RdParts w' Ap ps) (hW : PartsW ps) (hmp : ps.length ≤ cp ∧ cp ≤ maxLen) (h1 : (Lit.int .u8 a1).wf = true) (h2 : (Lit.int .u64 a2).wf = true) :
    Calls Tryz.prog 7 #[.slice Ap ps.length cp, .int .u8 a1, .int .u64 a2] w fun e w' => e = .returned (.bool true) ∧ Sat w w' [] := by
  have S := Sat.start w
  refine calls_start (N := 181) [.slice Ap ps.length cp, .int .u8 a1, .int .u64 a2] Tryz.func7 rfl rfl rfl (vok_c (vok_sl hmp) (vok_c h1 (vok_c h2 rfl))) fun a fr => ?_
  have ha1 : 0 ≤ a1 ∧ a1 ≤ 255 := by
    rw [wf_int] at h1
    have e1 : IntKind.u8.min = 0 := by decide
    have e2 : IntKind.u8.max = 255 := by decide
    omega
  skip; (repeat (with_reducible refine wp_seq ?_)); refine wp_region_lit ?_
  (repeat (refine wl_run orcCh_ok 1 rfl fr fun a fr => ?_))
  refine wpList_nil ?_; (repeat (with_reducible refine then_n ?_))
  skip; (repeat (with_reducible refine wp_seq ?_)); refine wp_region_lit ?_
  (repeat (refine wl_run orcCh_ok 1 rfl fr fun a fr => ?_))
  refine wl_call fr rfl rfl rfl rfl enOpened (opened_call S) ?_
  rintro _ w1 ⟨d, b, bl, bm, bk, bw, rfl, S⟩
  refine ⟨_, rfl, rfl, fun a fr => ?_⟩
  (repeat (refine wl_run orcCh_ok 1 rfl fr fun a fr => ?_))
  refine wpList_nil ?_; (repeat (with_reducible refine then_n ?_))
  skip; (repeat (with_reducible refine wp_seq ?_)); refine wp_region_lit ?_
  (repeat (refine wl_run orcCh_ok 1 rfl fr fun a fr => ?_))
  refine wpList_nil ?_; (repeat (with_reducible refine then_n ?_))
  skip; (repeat (with_reducible refine wp_seq ?_))
  refine cw_f fr rfl ?_
  refine wp_skip ?_
  (with_reducible refine then_n ?_)
  skip; (repeat (with_reducible refine wp_seq ?_)); refine wp_region_lit ?_
  (repeat (refine wl_run orcCh_ok 1 rfl fr fun a fr => ?_))
  refine wl_call fr rfl rfl rfl rfl enBegin (begin_call (ps := ps) hR hW hmp (fun p hp => by cases hp) (Nat.zero_le _) (fun p hp => by cases hp) (LogI.start.b (Nat.zero_le _)) S) ?_
  obtain ⟨hadd1, -⟩ := LogI.start.add (r := beginR 1) (by decide) (by omega)
  rintro _ w4 (⟨hno, rfl, S⟩ | ⟨-, h2, -⟩ | ⟨-, -, h3, -⟩ | ⟨hok, -, -, A4, c4, bn, rfl, hv4, hGI, S⟩)
  · refine ⟨_, rfl, rfl, fun a fr => ?_⟩
    (repeat (refine wl_run orcCh_ok 1 rfl fr fun a fr => ?_))
    refine wpList_nil ?_; (repeat (with_reducible refine then_n ?_))
    skip; (repeat (with_reducible refine wp_seq ?_)); refine wp_region_lit ?_
    (repeat (refine wl_run orcCh_ok 1 rfl fr fun a fr => ?_))
    refine wpList_nil ?_; (repeat (with_reducible refine then_n ?_))
    skip; (repeat (with_reducible refine wp_seq ?_))
    refine cw_t fr rfl ?_
    skip; (repeat (with_reducible refine wp_seq ?_)); refine wp_region_lit ?_
    (repeat (refine wl_run orcCh_ok 1 rfl fr fun a fr => ?_))
    refine wl_call fr rfl rfl rfl rfl enLives (lives_call (Sat.past S)) ?_
    rintro _ w5 ⟨rfl, S⟩
    refine ⟨_, rfl, rfl, fun a fr => ?_⟩
    (repeat (refine wl_run orcCh_ok 1 rfl fr fun a fr => ?_))
    refine wpList_nil ?_; (repeat (with_reducible refine then_n ?_))
    refine wp_ret ?_
    skip; (repeat (first | (with_reducible refine then_r ?_) | (with_reducible refine blk_r ?_) | (with_reducible refine ng_r ?_)))
    exact ret1 fr rfl rfl ⟨rfl, S⟩
  · exact absurd h2 (by decide)
  · have h3 : (addEI D0 0 (beginR 1) != 0) = true := h3
    rw [hadd1] at h3
    exact absurd h3 (by decide)
  refine ⟨.tuple #[.int .u32 1, .slice A4 ps.length ps.length, .int .i64 0], rfl, hv4, fun a fr => ?_⟩
  (repeat (refine wl_run orcCh_ok 1 rfl fr fun a fr => ?_))
  refine wpList_nil ?_; (repeat (with_reducible refine then_n ?_))
  have S := S.tl
  obtain ⟨x1, hx1⟩ : ∃ z, z = addXI D0 0 (beginR 1) := ⟨_, rfl⟩
  obtain ⟨D1, hD1⟩ : ∃ z, z = (addDI D0 0 (beginR 1)).sync := ⟨_, rfl⟩
  obtain ⟨L, hL⟩ : ∃ L, L = ps.map (·.1) := ⟨_, rfl⟩
  have hL7 : L ∈ seven := by
    have := plan_seven hok
    rw [List.map_map] at this
    rw [hL]; exact this
  have hLl : L.length = ps.length := by rw [hL, List.length_map]
  have hlen3 : ps.length ≤ 3 := by have := plan_few hok; rwa [List.length_map] at this
  rw [← hL] at S hGI
  have S : Sat w w4 (chW b bl bm 1 bk bw 0 d [(bn, newG zV 1 L)] [(1, 8)] x1 D1 []) := by rw [hx1, hD1]; exact S
  have hC1 : ss0 [(bn, newG zV 1 L)] [(1, 8)] x1 D1 = ⟨[gW L 0], [(1, 8)], x1, D1⟩ := by
    unfold gW
    rw [if_pos (by have := seven_len hL7; omega)]
    rfl
  have hI1 : ∀ p ∈ [(bn, newG zV 1 L)], GlI p.2 := fun p hp => by
    have : p = (bn, newG zV 1 L) := by simpa using hp
    rw [this]; exact hGI
  obtain ⟨A0, hSt⟩ : ∃ A0, St A0 [] ⟨[gW L 0], [(1, 8)], x1, D1⟩ 1 := by
    have h9 := (St.start.begin_ (by decide) hL7 [(1, 8)]).2
    refine ⟨[(98, 1, [])], ?_⟩
    rw [← hC1, hx1, hD1]
    exact h9
  obtain ⟨C1, hC1e⟩ : ∃ C1 : Ss RsT, C1 = ⟨[gW L 0], [(1, 8)], x1, D1⟩ := ⟨_, rfl⟩
  have hgs1 : C1.gs = [gW L 0] := by rw [hC1e]
  have S : Sat w w4 (chW b bl bm 1 bk bw 0 d [(bn, newG zV 1 L)] C1.m C1.x C1.D []) := by rw [hC1e]; exact S
  have hC1 : ss0 [(bn, newG zV 1 L)] C1.m C1.x C1.D = C1 := by rw [hC1e]; exact hC1
  rw [← hC1e] at hSt
  generalize [(bn, newG zV 1 L)] = gs1 at S hC1 hI1
  skip; (repeat (with_reducible refine wp_seq ?_)); refine wp_region_lit ?_
  (repeat (refine wl_run orcCh_ok 1 rfl fr fun a fr => ?_))
  refine wpList_nil ?_; (repeat (with_reducible refine then_n ?_))
  skip; (repeat (with_reducible refine wp_seq ?_))
  refine cw_f fr rfl ?_
  refine wp_skip ?_
  (with_reducible refine then_n ?_)
  have hwa1 : IntKind.wrap .i64 a1 = a1 := wrap_small (by omega)
  have hwl : IntKind.wrap .i64 ((ps.length : Int) + 1) = ((ps.length + 1 : Nat) : Int) := by rw [wrap_small (by omega)]; omega
  have htm : a1.tmod ((ps.length + 1 : Nat) : Int) = a1 % ((ps.length + 1 : Nat) : Int) := Int.tmod_eq_emod_of_nonneg ha1.1
  obtain ⟨n, hn, hn2⟩ : ∃ n : Nat, a1.tmod ((ps.length + 1 : Nat) : Int) = n ∧ n < ps.length + 1 := by
    have h1 := Int.emod_nonneg a1 (show ((ps.length + 1 : Nat) : Int) ≠ 0 by omega)
    have h2 := Int.emod_lt_of_pos a1 (show (0 : Int) < ((ps.length + 1 : Nat) : Int) by omega)
    exact ⟨(a1.tmod ((ps.length + 1 : Nat) : Int)).toNat, by omega, by omega⟩
  skip; (repeat (with_reducible refine wp_seq ?_)); refine wp_region_lit ?_
  (repeat (refine wl_run orcCh_ok 1 rfl fr fun a fr => ?_))
  have fr := fr.spell (d := 50) rfl (congrArg (Value.int .i64) hwl)
  refine wl_pv orcCh_ok fr rfl rfl rfl (po_rem (q := ((ps.length + 1 : Nat) : Int)) rfl rfl rfl (by omega)) fun a fr => ?_
  have fr := fr.spell (d := 51) rfl (show Value.int .i64 ((IntKind.wrap .i64 a1).tmod ((ps.length + 1 : Nat) : Int)) = .int .i64 (n : Int) by rw [hwa1, hn])
  (repeat (refine wl_run orcCh_ok 1 rfl fr fun a fr => ?_))
  refine wpList_nil ?_; (repeat (with_reducible refine then_n ?_))
  skip; (repeat (with_reducible refine wp_seq ?_)); refine wp_region_lit ?_
  (repeat (refine wl_run orcCh_ok 1 rfl fr fun a fr => ?_))
  refine wpList_nil ?_; (repeat (with_reducible refine then_n ?_))
  skip; (repeat (with_reducible refine wp_seq ?_))
  refine wp_block ?_
  refine cw_loop (fun r a w2 => ∃ (j : Nat) (gs : Gs) (C : Ss RsT) (A B : List Rc), j + r = n + 1 ∧ j ≤ n ∧ ss0 gs C.m C.x C.D = C ∧ C.gs = [gW L j] ∧ St A B C (1 + j) ∧ (∀ p ∈ gs, GlI p.2) ∧ Fr 181 a [(0, .slice Ap ps.length cp), (2, .int .u64 a2), (7, .pointer (some ⟨d, 0, none⟩)), (8, .pointer (some ⟨b, 0, none⟩)), (9, .int .u32 1), (12, .int .i64 (n : Int)), (13, .int .i64 (j : Int))] ∧ Sat w w2 (chW b bl bm 1 bk bw 0 d gs C.m C.x C.D [])) (n + 1)
    ⟨0, gs1, C1, A0, [], by omega, by omega, hC1, hgs1, hSt, hI1, fr.sub ⟨rfl, rfl, rfl, rfl, rfl, rfl, rfl, trivial⟩, S⟩ ?_ ?_
  · rintro a w2 ⟨j, _, _, _, _, h, h', -⟩
    omega
  clear fr S hC1 hI1 hSt
  rintro r2 a w5 ⟨j, gs2, C2, A2, B2, hj, hj', hC2, hgs2, hSt, hI2, fr, S⟩
  skip; (repeat (with_reducible refine wp_seq ?_)); refine wp_region_lit ?_
  (repeat (refine wl_run orcCh_ok 1 rfl fr fun a fr => ?_))
  refine wpList_nil ?_; (repeat (with_reducible refine then_n ?_))
  by_cases hjn : j < n
  · have fr := fr.bool (d := 54) rfl (decide_eq_true (show (j : Int) < (n : Int) by omega))
    skip; (repeat (with_reducible refine wp_seq ?_))
    refine cw_t fr rfl ?_
    refine wp_skip ?_
    (with_reducible refine then_n ?_)
    have hjl : j < ps.length := by omega
    have hrd := hR _ (Sat.past S)
    obtain ⟨ad, hA⟩ := hrd.some hjl
    have hcell := hrd.cell j hjl ad hA
    have hLj : L.getD j 0 = ps[j].1 := by
      rw [hL, List.getD_eq_getElem?_getD, List.getElem?_eq_getElem (by rw [List.length_map]; exact hjl), List.getElem_map]
      rfl
    have hkj := hW.k _ (List.getElem_mem hjl)
    obtain ⟨s, hs⟩ : ∃ s, s = ps[j].1 := ⟨_, rfl⟩
    rw [← hs] at hLj hkj
    have hcv := hSt
    obtain ⟨g2, m2, x2, D2⟩ := C2
    have hgs2 : g2 = [gW L j] := hgs2
    subst hgs2
    have hcs := came_vote hL7 (show j < L.length by omega) hcv (by omega)
    rw [hLj] at hcs
    obtain ⟨A3, B3, hSt3, -, -⟩ := hSt.came (by omega) 2 s 0 1 []
    skip; (repeat (with_reducible refine wp_seq ?_))
    refine wp_block ?_
    skip; (repeat (with_reducible refine wp_seq ?_)); refine wp_region_lit ?_
    (repeat (refine wl_run orcCh_ok 1 rfl fr fun a fr => ?_))
    refine wl_ixe orcCh_ok hA fr rfl rfl rfl rfl rfl rfl rfl rfl ⟨by omega, by omega⟩ fun a fr => ?_
    (repeat (refine wl_run orcCh_ok 1 rfl fr fun a fr => ?_))
    refine wl_ldf orcCh_ok (v := .int .u8 s) ⟨(show w5.cell? ((ad.add (j * 2)).add 0) = some (.int .u8 s) by rw [add_add]; exact hcell 0 _ (by rw [hs]; rfl)), hkj⟩ fr rfl rfl rfl rfl rfl rfl rfl fun a fr => ?_
    (repeat (refine wl_run orcCh_ok 1 rfl fr fun a fr => ?_))
    have hmv : (mgV 2 s 0 1 none 0 0 none 0 0).all vok1 = true := MgW.ok ⟨rfl, hkj, rfl, rfl, ⟨Nat.le_refl _, Nat.zero_le _⟩, ⟨Nat.le_refl _, Nat.zero_le _⟩⟩ none none
    refine wl_build (cs := mgV 2 s 0 1 none 0 0 none 0 0) (L2 := [(0, .int .u8 2), (1, .int .u8 s), (3, .int .u32 1)]) fr rfl rfl rfl rfl (by simp; exact ⟨rfl, (fr.ev (o := .tmp 62) rfl).1, (fr.ev (o := .tmp 63) rfl).1⟩) (by kernel_rfl) hmv fun a fr => ?_
    obtain ⟨os, z, hcO⟩ : ∃ os z, cameO (⟨[gW L j], m2, x2, D2⟩ : Ss RsT) 2 s 0 1 [] = (os, z) := ⟨_, _, rfl⟩
    refine wl_call fr rfl rfl rfl rfl enCame (came_step (cameS (⟨[gW L j], m2, x2, D2⟩ : Ss RsT) 2 s 0 1 []) hC2 rfl hcO rfl hkj rfl hI2 ⟨(hSt.b (by omega)).1, Nat.le_trans (hSt.b (by omega)).2 (by decide)⟩ S) ?_
    rintro _ w6 ⟨A6, c6, gs3, rfl, hv6, hC3, hI3, -, S⟩
    have S := S.tl
    refine ⟨_, rfl, hv6, fun a fr => ?_⟩
    (repeat (refine wl_run orcCh_ok 1 rfl fr fun a fr => ?_))
    refine wpList_nil ?_; (repeat (with_reducible refine then_n ?_))
    (repeat (first | (with_reducible refine then_n ?_) | (with_reducible refine blk_n ?_)))
    skip; (repeat (with_reducible refine wp_seq ?_)); refine wp_region_lit ?_
    (repeat (refine wl_run orcCh_ok 1 rfl fr fun a fr => ?_))
    refine wpList_nil ?_; (repeat (with_reducible refine then_n ?_))
    have fr := fr.spell (d := 13) rfl (congrArg (Value.int .i64) (i64_next hjn (by omega)))
    exact ⟨j + 1, gs3, _, A3, B3, by omega, by omega, hC3, hcs, by rw [show 1 + (j + 1) = 1 + j + 1 by omega]; exact hSt3, hI3, fr.sub ⟨rfl, rfl, rfl, rfl, rfl, rfl, rfl, trivial⟩, S⟩
  have fr := fr.bool (d := 54) rfl (decide_eq_false (show ¬ (j : Int) < (n : Int) by omega))
  obtain rfl : j = n := by omega
  skip; (repeat (with_reducible refine wp_seq ?_))
  refine cw_f fr rfl ?_
  refine wp_exit ?_
  skip; (repeat (first | (with_reducible refine then_e ?_) | (with_reducible refine ng_e ?_) | (with_reducible refine blk_e (by decide) ?_))); (with_reducible refine blk_y ?_); (repeat (with_reducible refine then_n ?_))
  obtain ⟨hrec, hSt3, -, hLr⟩ := hSt.fail (by omega) a2 (-1) []
  have hw2 : C2.D.waits.length ≤ 1000000 := Nat.le_trans (hSt.b (by omega)).2 (by decide)
  obtain ⟨L', hL'⟩ : ∃ L', L' = A2 ++ B2.take (lead a2 0 B2.length) := ⟨_, rfl⟩
  rw [← hL'] at hrec hSt3 hLr
  have hlL : (lrn L').length = 1 := by
    have h9 := hSt3.good.len
    have h8 := (hSt.good.ends (B := B2.take (lead a2 0 B2.length)) fun r hr => hSt.endB r (List.mem_of_mem_take hr)).len
    rw [← hL', hgs2] at h8
    exact h8
  obtain ⟨GL, hGL⟩ : ∃ GL, lrn L' = [GL] := by
    match hm : lrn L', hlL with
    | [G], _ => exact ⟨G, rfl⟩
  obtain ⟨w1', w2', w3'⟩ := gW_is hL7 (show j ≤ L.length by omega)
  have hGone : GoneI L (j == L.length) GL := by
    obtain ⟨q1, q2⟩ := hLr 0 (by omega) (by rw [hgs2]; exact Nat.one_pos)
    simp only [hGL, hgs2, List.getElem_cons_zero] at q1 q2
    exact GoneI.of w1' w2' w3' q1 q2
  obtain ⟨com, hcom⟩ : ∃ com, com = (j == L.length) := ⟨_, rfl⟩
  rw [← hcom] at hGone
  have hfewL : L'.length ≤ 100000 := by have := hSt3.few; have h8 : ([] : List Rc).length = 0 := rfl; omega
  have hOkL := hSt3.good.ok
  have S := S.frontAt 2 rfl
  skip; (repeat (with_reducible refine wp_seq ?_)); refine wp_region_lit ?_
  (repeat (refine wl_run orcCh_ok 1 rfl fr fun a fr => ?_))
  refine wl_call fr rfl rfl rfl rfl enFailD (disk_fail S h2 (show (Lit.int .i64 (-1)).wf = true from rfl) ⟨hw2, by decide⟩) ?_
  rintro _ w7 ⟨d', rfl, S⟩
  refine ⟨_, rfl, rfl, fun a fr => ?_⟩
  (repeat (refine wl_run orcCh_ok 1 rfl fr fun a fr => ?_))
  refine wpList_nil ?_; (repeat (with_reducible refine then_n ?_))
  obtain ⟨D3, hD3⟩ : ∃ D3, D3 = Dk.fail C2.D a2 (-1) := ⟨_, rfl⟩
  rw [← hD3] at hrec S hSt3
  have hw3 : D3.waits.length ≤ 100000000 := by rw [hD3]; exact Nat.zero_le _
  skip; (repeat (with_reducible refine wp_seq ?_)); refine wp_region_lit ?_
  (repeat (refine wl_run orcCh_ok 1 rfl fr fun a fr => ?_))
  refine wl_call fr rfl rfl rfl rfl enChNew (chnew_call hrec hOkL hw3 hfewL S) ?_
  rintro _ w8 ⟨b', bl', bm', bk', bw', gs4, rfl, hgs4, hI4, S⟩
  refine ⟨_, rfl, rfl, fun a fr => ?_⟩
  (repeat (refine wl_run orcCh_ok 1 rfl fr fun a fr => ?_))
  refine wpList_nil ?_; (repeat (with_reducible refine then_n ?_))
  rw [hGL] at hgs4
  generalize lastL L' = last4 at S
  have hb4 : (0 ≤ ((atD D3 : Nat) : Int) ∧ ((atD D3 : Nat) : Int) ≤ 4096) ∧ (openD D3).waits.length ≤ 100000000 := by
    have h9 := hSt3.log.x
    have h8 := hSt3.few
    have h7 := hSt3.log.waits
    rw [List.append_nil] at h9
    have h9 : ((atD D3 : Nat) : Int) = _ := h9
    have h7 : (openD D3).waits = [] := h7
    rw [h7]
    exact ⟨by omega, Nat.zero_le _⟩
  obtain ⟨RX, hRX⟩ : ∃ RX : List Asn, RX = diskA d C2.D :: (chW b bl bm 1 bk bw 0 d gs2 C2.m C2.x C2.D []).eraseIdx 2 := ⟨_, rfl⟩
  have S : Sat w w8 (chW b' bl' bm' last4 bk' bw' 0 d' gs4 [] (atD D3) (openD D3) RX) := by rw [hRX]; exact S
  have hC4 : ss0 gs4 [] ((atD D3 : Nat) : Int) (openD D3) = ⟨[GL], [], ((atD D3 : Nat) : Int), openD D3⟩ := by unfold ss0; rw [hgs4]
  generalize ((atD D3 : Nat) : Int) = x4 at S hC4 hb4
  generalize openD D3 = D4 at S hC4 hb4
  skip; (repeat (with_reducible refine wp_seq ?_)); refine wp_region_lit ?_
  (repeat (refine wl_run orcCh_ok 1 rfl fr fun a fr => ?_))
  refine wpList_nil ?_; (repeat (with_reducible refine then_n ?_))
  skip; (repeat (with_reducible refine wp_seq ?_))
  refine cw_f fr rfl ?_
  refine wp_skip ?_
  (with_reducible refine then_n ?_)
  skip; (repeat (with_reducible refine wp_seq ?_)); refine wp_region_lit ?_
  (repeat (refine wl_run orcCh_ok 1 rfl fr fun a fr => ?_))
  refine wl_call fr rfl rfl rfl rfl enTold (told_step hgs4 hGone.tells rfl hI4 S) ?_
  rintro _ w9 ⟨A9, rfl, hv9, S⟩
  refine ⟨_, rfl, hv9, fun a fr => ?_⟩
  (repeat (refine wl_run orcCh_ok 1 rfl fr fun a fr => ?_))
  refine wpList_nil ?_; (repeat (with_reducible refine then_n ?_))
  skip; (repeat (with_reducible refine wp_seq ?_)); refine wp_region_lit ?_
  (repeat (refine wl_run orcCh_ok 1 rfl fr fun a fr => ?_))
  have hcj : ((j : Int) == (ps.length : Int)) = com := by
    rw [hcom, hLl]
    cases h : (j == ps.length) with
    | true =>
      have h : j = ps.length := by simpa using h
      rw [h]; simp
    | false =>
      have h : j ≠ ps.length := by simpa using h
      simp; omega
  have fr := fr.bool (d := 96) rfl (show (com != ((j : Int) == (ps.length : Int))) = false by rw [hcj]; simp)
  (repeat (refine wl_run orcCh_ok 1 rfl fr fun a fr => ?_))
  have fr := fr.bool (d := 101) rfl (show (((([] : List RsT).length : Nat) : Int) != 0) = false by rfl)
  (repeat (refine wl_run orcCh_ok 1 rfl fr fun a fr => ?_))
  refine wpList_nil ?_; (repeat (with_reducible refine then_n ?_))
  skip; (repeat (with_reducible refine wp_seq ?_))
  refine cw_f fr rfl ?_
  refine wp_skip ?_
  (with_reducible refine then_n ?_)
  obtain ⟨want, hwant⟩ : ∃ want : Int, want = if com = true then 4 else 5 := ⟨_, rfl⟩
  have hwwf : (Lit.int .u8 want).wf = true := by rw [hwant]; cases com <;> rfl
  skip; (repeat (with_reducible refine wp_seq ?_)); refine wp_region_lit ?_
  (repeat (refine wl_run orcCh_ok 1 rfl fr fun a fr => ?_))
  refine wpList_nil ?_; (repeat (with_reducible refine then_n ?_))
  skip; (repeat (with_reducible refine wp_seq ?_)); refine wp_region_lit ?_
  (repeat (refine wl_run orcCh_ok 1 rfl fr fun a fr => ?_))
  refine wpList_nil ?_; (repeat (with_reducible refine then_n ?_))
  skip; (repeat (with_reducible refine wp_seq ?_))
  refine cw_any (fun a w2 => Fr 181 a [(0, .slice Ap ps.length cp), (9, .int .u32 1), (15, .pointer (some ⟨b', 0, none⟩)), (20, .int .u8 want)] ∧ w2 = w9) ?_ ?_
  · cases hcm : com with
    | true =>
      rw [hcm] at hwant
      have fr := fr.bool (d := 105) rfl hcm
      skip; (repeat (with_reducible refine wp_seq ?_))
      refine cw_t fr rfl ?_
      skip; (repeat (with_reducible refine wp_seq ?_)); refine wp_region_lit ?_
      (repeat (refine wl_run orcCh_ok 1 rfl fr fun a fr => ?_))
      refine wpList_nil ?_; (repeat (with_reducible refine then_n ?_))
      rw [hwant]
      exact ⟨rfl, fr.sub ⟨rfl, rfl, rfl, rfl, trivial⟩, rfl⟩
    | false =>
      rw [hcm] at hwant
      have fr := fr.bool (d := 105) rfl hcm
      skip; (repeat (with_reducible refine wp_seq ?_))
      refine cw_f fr rfl ?_
      refine wp_skip ?_
      rw [hwant]
      exact ⟨rfl, fr.sub ⟨rfl, rfl, rfl, rfl, trivial⟩, rfl⟩
  clear fr
  rintro a _ ⟨fr, rfl⟩
  (repeat (first | (with_reducible refine then_n ?_) | (with_reducible refine blk_n ?_)))
  skip; (repeat (with_reducible refine wp_seq ?_)); refine wp_region_lit ?_
  (repeat (refine wl_run orcCh_ok 1 rfl fr fun a fr => ?_))
  refine wpList_nil ?_; (repeat (with_reducible refine then_n ?_))
  skip; (repeat (with_reducible refine wp_seq ?_))
  refine wp_block ?_
  refine cw_loop (fun r a w2 => ∃ (i : Nat) (gs : Gs), i + r = ps.length + 1 ∧ i ≤ ps.length ∧ ss0 gs [] x4 D4 = ⟨[GL], [], x4, D4⟩ ∧ (∀ p ∈ gs, GlI p.2) ∧ Fr 181 a [(0, .slice Ap ps.length cp), (9, .int .u32 1), (15, .pointer (some ⟨b', 0, none⟩)), (20, .int .u8 want), (21, .int .i64 (i : Int))] ∧ Sat w w2 (chW b' bl' bm' last4 bk' bw' 0 d' gs [] x4 D4 RX)) (ps.length + 1)
    ⟨0, gs4, by omega, by omega, hC4, hI4, fr.sub ⟨rfl, rfl, rfl, rfl, rfl, trivial⟩, S⟩ ?_ ?_
  · rintro a w2 ⟨i, _, h, h', -⟩
    omega
  clear fr S hC4 hI4
  rintro r3 a w10 ⟨i, gs5, hi, hi', hC5, hI5, fr, S⟩
  skip; (repeat (with_reducible refine wp_seq ?_)); refine wp_region_lit ?_
  (repeat (refine wl_run orcCh_ok 1 rfl fr fun a fr => ?_))
  refine wpList_nil ?_; (repeat (with_reducible refine then_n ?_))
  by_cases hlt : i < ps.length
  rotate_left
  · have fr := fr.bool (d := 109) rfl (decide_eq_false (show ¬ (i : Int) < (ps.length : Int) by omega))
    skip; (repeat (with_reducible refine wp_seq ?_))
    refine cw_f fr rfl ?_
    refine wp_exit ?_
    skip; (repeat (first | (with_reducible refine then_e ?_) | (with_reducible refine ng_e ?_) | (with_reducible refine blk_e (by decide) ?_))); (with_reducible refine blk_y ?_); (repeat (with_reducible refine then_n ?_))
    skip; (repeat (with_reducible refine wp_seq ?_)); refine wp_region_lit ?_
    (repeat (refine wl_run orcCh_ok 1 rfl fr fun a fr => ?_))
    refine wl_call fr rfl rfl rfl rfl enLives (lives_call (R := []) ⟨S.below, trivial⟩) ?_
    rintro _ w7 ⟨rfl, S⟩
    refine ⟨_, rfl, rfl, fun a fr => ?_⟩
    (repeat (refine wl_run orcCh_ok 1 rfl fr fun a fr => ?_))
    refine wpList_nil ?_; (repeat (with_reducible refine then_n ?_))
    refine wp_ret ?_
    skip; (repeat (first | (with_reducible refine then_r ?_) | (with_reducible refine blk_r ?_) | (with_reducible refine ng_r ?_)))
    exact ret1 fr rfl rfl ⟨rfl, S⟩
  have fr := fr.bool (d := 109) rfl (decide_eq_true (show (i : Int) < (ps.length : Int) by omega))
  skip; (repeat (with_reducible refine wp_seq ?_))
  refine cw_t fr rfl ?_
  refine wp_skip ?_
  (with_reducible refine then_n ?_)
  have hrdE : ∀ {w'} {M : List Asn}, Sat w w' M → RdParts w' Ap ps := fun {w'} {M} S' => hR _ (Sat.lastsT M (by rw [List.append_nil]; exact S'))
  obtain ⟨ad, hA⟩ := (hrdE S).some hlt
  have hcell : ∀ {w'} {M : List Asn}, Sat w w' M → ∀ j u, (pcV ps[i])[j]? = some u → w'.cell? (ad.add (i * 2 + j)) = some u := fun S' => (hrdE S').cell i hlt ad hA
  have hLi : ps[i].1 ∈ L := by rw [hL]; exact List.mem_map.2 ⟨_, List.getElem_mem hlt, rfl⟩
  have hki := hW.k _ (List.getElem_mem hlt)
  obtain ⟨s, hs⟩ : ∃ s, s = ps[i].1 := ⟨_, rfl⟩
  rw [← hs] at hLi hki
  obtain ⟨hS7, hO7⟩ := hGone.came hL7 (s := 7) (.inr rfl) hLi [] x4 D4
  obtain ⟨hS2, hO2⟩ := hGone.came hL7 (s := 2) (.inl rfl) hLi [] x4 D4
  rw [← hwant] at hO7 hO2
  skip; (repeat (with_reducible refine wp_seq ?_))
  refine wp_block ?_
  skip; (repeat (with_reducible refine wp_seq ?_)); refine wp_region_lit ?_
  (repeat (refine wl_run orcCh_ok 1 rfl fr fun a fr => ?_))
  refine wl_ixe orcCh_ok hA fr rfl rfl rfl rfl rfl rfl rfl rfl ⟨by omega, by omega⟩ fun a fr => ?_
  (repeat (refine wl_run orcCh_ok 1 rfl fr fun a fr => ?_))
  refine wl_ldf orcCh_ok (v := .int .u8 s) ⟨(show World.cell? _ ((ad.add (i * 2)).add 0) = some (.int .u8 s) by rw [add_add]; exact hcell S 0 _ (by rw [hs]; rfl)), hki⟩ fr rfl rfl rfl rfl rfl rfl rfl fun a fr => ?_
  (repeat (refine wl_run orcCh_ok 1 rfl fr fun a fr => ?_))
  have hmv : ∀ say, (Lit.int .u8 say).wf = true → (mgV say s 0 1 none 0 0 none 0 0).all vok1 = true := fun say hsy => MgW.ok ⟨hsy, hki, rfl, rfl, ⟨Nat.le_refl _, Nat.zero_le _⟩, ⟨Nat.le_refl _, Nat.zero_le _⟩⟩ none none
  refine wl_build (cs := mgV 7 s 0 1 none 0 0 none 0 0) (L2 := [(0, .int .u8 7), (1, .int .u8 s), (3, .int .u32 1)]) fr rfl rfl rfl rfl (by simp; exact ⟨rfl, (fr.ev (o := .tmp 118) rfl).1, (fr.ev (o := .tmp 119) rfl).1⟩) (by kernel_rfl) (hmv 7 rfl) fun a fr => ?_
  refine wl_call fr rfl rfl rfl rfl enCame (came_step ⟨[GL], [], x4, D4⟩ hC5 hS7 hO7 rfl hki rfl hI5 hb4 S) ?_
  rintro _ w11 ⟨A6, c6, gs6, rfl, hv6, hC6, hI6, -, S⟩
  have S := Sat.behind S
  refine ⟨.tuple #[.slice A6 1 1, .int .i64 0], rfl, hv6, fun a fr => ?_⟩
  (repeat (refine wl_run orcCh_ok 1 rfl fr fun a fr => ?_))
  refine wpList_nil ?_; (repeat (with_reducible refine then_n ?_))
  skip; (repeat (with_reducible refine wp_seq ?_)); refine wp_region_lit ?_
  (repeat (refine wl_run orcCh_ok 1 rfl fr fun a fr => ?_))
  refine wl_ixe orcCh_ok hA fr rfl rfl rfl rfl rfl rfl rfl rfl ⟨by omega, by omega⟩ fun a fr => ?_
  (repeat (refine wl_run orcCh_ok 1 rfl fr fun a fr => ?_))
  refine wl_ldf orcCh_ok (v := .int .u8 s) ⟨(show World.cell? _ ((ad.add (i * 2)).add 0) = some (.int .u8 s) by rw [add_add]; exact hcell S 0 _ (by rw [hs]; rfl)), hki⟩ fr rfl rfl rfl rfl rfl rfl rfl fun a fr => ?_
  (repeat (refine wl_run orcCh_ok 1 rfl fr fun a fr => ?_))
  refine wl_build (cs := mgV 2 s 0 1 none 0 0 none 0 0) (L2 := [(0, .int .u8 2), (1, .int .u8 s), (3, .int .u32 1)]) fr rfl rfl rfl rfl (by simp; exact ⟨rfl, (fr.ev (o := .tmp 130) rfl).1, (fr.ev (o := .tmp 131) rfl).1⟩) (by kernel_rfl) (hmv 2 rfl) fun a fr => ?_
  refine wl_call fr rfl rfl rfl rfl enCame (came_step ⟨[GL], [], x4, D4⟩ hC6 hS2 hO2 rfl hki rfl hI6 hb4 S) ?_
  rintro _ w12 ⟨A7, c7, gs7, rfl, hv7, hC7, hI7, -, S⟩
  have S := Sat.behind S
  refine ⟨.tuple #[.slice A7 1 1, .int .i64 0], rfl, hv7, fun a fr => ?_⟩
  (repeat (refine wl_run orcCh_ok 1 rfl fr fun a fr => ?_))
  refine wpList_nil ?_; (repeat (with_reducible refine then_n ?_))
  have hS0 : Sat w w12 (pmA A7 c7 [(want, s, 1)] :: pmA A6 c6 [(want, s, 1)] :: RX) := Sat.past S
  obtain ⟨ad7, hA7, hc7⟩ := pm_cell hS0 0 rfl (i := 0) Nat.one_pos
  obtain ⟨ad6, hA6, hc6⟩ := pm_cell hS0 1 rfl (i := 0) Nat.one_pos
  have hc7 : ∀ w', Sat w w' [pmA A7 c7 [(want, s, 1)], pmA A6 c6 [(want, s, 1)]] → ∀ j u, (pmV (want, s, 1))[j]? = some u → w'.cell? (ad7.add (0 * 6 + j)) = some u := fun w' S' => by
    obtain ⟨ad, h1, h2⟩ := pm_cell S' 0 rfl (i := 0) Nat.one_pos
    rw [hA7] at h1; injection h1 with h1; subst h1
    exact h2
  have hc6 : ∀ w', Sat w w' [pmA A7 c7 [(want, s, 1)], pmA A6 c6 [(want, s, 1)]] → ∀ j u, (pmV (want, s, 1))[j]? = some u → w'.cell? (ad6.add (0 * 6 + j)) = some u := fun w' S' => by
    obtain ⟨ad, h1, h2⟩ := pm_cell S' 1 rfl (i := 0) Nat.one_pos
    rw [hA6] at h1; injection h1 with h1; subst h1
    exact h2
  skip; (repeat (with_reducible refine wp_seq ?_))
  refine wp_region_sl [.one (0, true, some 136), .one (1, true, some 137), .one (2, true, some 138), .one (3, true, some 139), .one (4, true, some 140), .one (5, true, some 141), .one (6, true, some 142), .one (7, true, some 143), .one (8, true, some 144), .one (9, true, some 145), .one (10, true, some 146), .one (11, true, some 147), .one (12, true, some 148), .one (13, true, some 149), .one (14, true, some 150), .one (15, true, some 151), .one (16, true, some 152), .one (17, true, some 153), .one (18, true, some 154), .one (19, true, some 155), .one (20, true, some 156), .one (21, true, some 157), .one (22, true, some 158), .one (23, true, some 159), .one (24, true, some 160), .one (25, true, some 161), .one (26, true, some 162), .one (27, true, some 163), .one (28, true, some 164), .one (29, true, some 165), .one (30, true, some 166), .one (31, true, some 167), .one (32, true, some 168), .one (33, true, some 169), .one (34, true, some 170), .one (35, true, some 171), .one (36, true, some 172), .one (37, true, some 173), .one (38, true, some 174), .one (39, true, some 175), .one (40, true, some 176), .one (41, true, some 177), .one (42, true, some 178), .one (43, true, some 179)]
                [.one ⟨true, some 136, (Go.Op.move (Go.Operand.tmp 23)), 28, none⟩,
                .one ⟨true, some 137, (Go.Op.binOp Go.BinOp.neq 28 (Go.Operand.tmp 136) (Go.Operand.const (Go.Value.int Go.IntKind.i64 0)) 28), 4, none⟩,
                .one ⟨true, some 138, (Go.Op.move (Go.Operand.tmp 137)), 4, none⟩,
                .one ⟨true, some 139, (Go.Op.move (Go.Operand.tmp 25)), 28, some (138, false)⟩,
                .one ⟨true, some 140, (Go.Op.binOp Go.BinOp.neq 28 (Go.Operand.tmp 139) (Go.Operand.const (Go.Value.int Go.IntKind.i64 0)) 28), 4, some (138, false)⟩,
                .one ⟨true, some 141, (Go.Op.pick (Go.Operand.tmp 138) (Go.Operand.const (Go.Value.bool true)) (Go.Operand.tmp 140)), 4, none⟩,
                .one ⟨true, some 142, (Go.Op.move (Go.Operand.tmp 141)), 4, none⟩,
                .one ⟨true, some 143, (Go.Op.move (Go.Operand.tmp 22)), 27, some (142, false)⟩,
                .one ⟨true, some 144, (Go.Op.call { callee := (Go.Callee.builtin Go.Builtin.len), args := #[(Go.Operand.tmp 143)], argTypes := #[27] }), 3, some (142, false)⟩,
                .one ⟨true, some 145, (Go.Op.binOp Go.BinOp.neq 3 (Go.Operand.tmp 144) (Go.Operand.const (Go.Value.int Go.IntKind.i64 1)) 3), 4, some (142, false)⟩,
                .one ⟨true, some 146, (Go.Op.pick (Go.Operand.tmp 142) (Go.Operand.const (Go.Value.bool true)) (Go.Operand.tmp 145)), 4, none⟩,
                .one ⟨true, some 147, (Go.Op.move (Go.Operand.tmp 146)), 4, none⟩,
                .one ⟨true, some 148, (Go.Op.move (Go.Operand.tmp 24)), 27, some (147, false)⟩,
                .one ⟨true, some 149, (Go.Op.call { callee := (Go.Callee.builtin Go.Builtin.len), args := #[(Go.Operand.tmp 148)], argTypes := #[27] }), 3, some (147, false)⟩,
                .one ⟨true, some 150, (Go.Op.binOp Go.BinOp.neq 3 (Go.Operand.tmp 149) (Go.Operand.const (Go.Value.int Go.IntKind.i64 1)) 3), 4, some (147, false)⟩,
                .one ⟨true, some 151, (Go.Op.pick (Go.Operand.tmp 147) (Go.Operand.const (Go.Value.bool true)) (Go.Operand.tmp 150)), 4, none⟩,
                .one ⟨true, some 152, (Go.Op.move (Go.Operand.tmp 151)), 4, none⟩,
                .one ⟨true, some 153, (Go.Op.move (Go.Operand.tmp 22)), 27, some (152, false)⟩,
                .one ⟨true, some 154, (Go.Op.indexAddr 27 (Go.Operand.tmp 153) (Go.Operand.const (Go.Value.int Go.IntKind.i64 0))), 0, some (152, false)⟩,
                .one ⟨true, some 155, (Go.Op.fieldAddr 42 (Go.Operand.tmp 154) 0), 0, some (152, false)⟩,
                .one ⟨true, some 156, (Go.Op.load 36 (Go.Operand.tmp 155)), 36, some (152, false)⟩,
                .one ⟨true, some 157, (Go.Op.move (Go.Operand.tmp 20)), 36, some (152, false)⟩,
                .one ⟨true, some 158, (Go.Op.binOp Go.BinOp.neq 36 (Go.Operand.tmp 156) (Go.Operand.tmp 157) 36), 4, some (152, false)⟩,
                .one ⟨true, some 159, (Go.Op.pick (Go.Operand.tmp 152) (Go.Operand.const (Go.Value.bool true)) (Go.Operand.tmp 158)), 4, none⟩,
                .one ⟨true, some 160, (Go.Op.move (Go.Operand.tmp 159)), 4, none⟩,
                .one ⟨true, some 161, (Go.Op.move (Go.Operand.tmp 24)), 27, some (160, false)⟩,
                .one ⟨true, some 162, (Go.Op.indexAddr 27 (Go.Operand.tmp 161) (Go.Operand.const (Go.Value.int Go.IntKind.i64 0))), 0, some (160, false)⟩,
                .one ⟨true, some 163, (Go.Op.fieldAddr 42 (Go.Operand.tmp 162) 0), 0, some (160, false)⟩,
                .one ⟨true, some 164, (Go.Op.load 36 (Go.Operand.tmp 163)), 36, some (160, false)⟩,
                .one ⟨true, some 165, (Go.Op.move (Go.Operand.tmp 20)), 36, some (160, false)⟩,
                .one ⟨true, some 166, (Go.Op.binOp Go.BinOp.neq 36 (Go.Operand.tmp 164) (Go.Operand.tmp 165) 36), 4, some (160, false)⟩,
                .one ⟨true, some 167, (Go.Op.pick (Go.Operand.tmp 160) (Go.Operand.const (Go.Value.bool true)) (Go.Operand.tmp 166)), 4, none⟩,
                .one ⟨true, some 168, (Go.Op.move (Go.Operand.tmp 167)), 4, none⟩,
                .one ⟨true, some 169, (Go.Op.move (Go.Operand.tmp 22)), 27, some (168, false)⟩,
                .one ⟨true, some 170, (Go.Op.indexAddr 27 (Go.Operand.tmp 169) (Go.Operand.const (Go.Value.int Go.IntKind.i64 0))), 0, some (168, false)⟩,
                .one ⟨true, some 171, (Go.Op.fieldAddr 42 (Go.Operand.tmp 170) 2), 0, some (168, false)⟩,
                .one ⟨true, some 172, (Go.Op.load 5 (Go.Operand.tmp 171)), 5, some (168, false)⟩,
                .one ⟨true, some 173, (Go.Op.move (Go.Operand.tmp 0)), 22, some (168, false)⟩,
                .one ⟨true, some 174, (Go.Op.move (Go.Operand.tmp 21)), 3, some (168, false)⟩,
                .one ⟨true, some 175, (Go.Op.indexAddr 22 (Go.Operand.tmp 173) (Go.Operand.tmp 174)), 0, some (168, false)⟩,
                .one ⟨true, some 176, (Go.Op.fieldAddr 39 (Go.Operand.tmp 175) 0), 0, some (168, false)⟩,
                .one ⟨true, some 177, (Go.Op.load 5 (Go.Operand.tmp 176)), 5, some (168, false)⟩,
                .one ⟨true, some 178, (Go.Op.binOp Go.BinOp.neq 5 (Go.Operand.tmp 172) (Go.Operand.tmp 177) 5), 4, some (168, false)⟩,
                .one ⟨true, some 179, (Go.Op.pick (Go.Operand.tmp 168) (Go.Operand.const (Go.Value.bool true)) (Go.Operand.tmp 178)), 4, none⟩]
                (fun v => Sat w v [pmA A7 c7 [(want, s, 1)], pmA A6 c6 [(want, s, 1)]]) rfl (by kernel_rfl) (by kernel_rfl) ?_ ?_
  · exact Sat.firsts _ hS0.drew
  have S := S.drew
  have hS : Sat w _ [pmA A7 c7 [(want, s, 1)], pmA A6 c6 [(want, s, 1)]] := Sat.firsts _ hS0.drew
  clear hS0
  (repeat (refine sl_run orcCh_ok 1 rfl fr fun a fr => ?_))
  refine sl_ixe orcCh_ok hA6 fr rfl rfl rfl rfl rfl rfl rfl rfl rfl ⟨by decide, by decide⟩ fun a fr => ?_
  (repeat (refine sl_run orcCh_ok 1 rfl fr fun a fr => ?_))
  refine sl_ldf orcCh_ok (v := .int .u8 want) (fun w' S' => ⟨(show w'.cell? ((ad6.add (0 * 6)).add 0) = some (.int .u8 want) by rw [add_add]; exact hc6 w' S' 0 _ rfl), hwwf⟩) fr rfl rfl rfl rfl rfl rfl rfl rfl hS fun a fr => ?_
  (repeat (refine sl_run orcCh_ok 1 rfl fr fun a fr => ?_))
  have fr := fr.bool (d := 160) rfl (show (want != want) = false by simp)
  (repeat (refine sl_run orcCh_ok 1 rfl fr fun a fr => ?_))
  refine sl_ixe orcCh_ok hA7 fr rfl rfl rfl rfl rfl rfl rfl rfl rfl ⟨by decide, by decide⟩ fun a fr => ?_
  (repeat (refine sl_run orcCh_ok 1 rfl fr fun a fr => ?_))
  refine sl_ldf orcCh_ok (v := .int .u8 want) (fun w' S' => ⟨(show w'.cell? ((ad7.add (0 * 6)).add 0) = some (.int .u8 want) by rw [add_add]; exact hc7 w' S' 0 _ rfl), hwwf⟩) fr rfl rfl rfl rfl rfl rfl rfl rfl hS fun a fr => ?_
  (repeat (refine sl_run orcCh_ok 1 rfl fr fun a fr => ?_))
  have fr := fr.bool (d := 168) rfl (show (want != want) = false by simp)
  (repeat (refine sl_run orcCh_ok 1 rfl fr fun a fr => ?_))
  refine sl_ixe orcCh_ok hA6 fr rfl rfl rfl rfl rfl rfl rfl rfl rfl ⟨by decide, by decide⟩ fun a fr => ?_
  (repeat (refine sl_run orcCh_ok 1 rfl fr fun a fr => ?_))
  refine sl_ldf orcCh_ok (v := .int .u8 s) (fun w' S' => ⟨(show w'.cell? ((ad6.add (0 * 6)).add 2) = some (.int .u8 s) by rw [add_add]; exact hc6 w' S' 2 _ rfl), hki⟩) fr rfl rfl rfl rfl rfl rfl rfl rfl hS fun a fr => ?_
  (repeat (refine sl_run orcCh_ok 1 rfl fr fun a fr => ?_))
  refine sl_ixe orcCh_ok hA fr rfl rfl rfl rfl rfl rfl rfl rfl rfl ⟨by omega, by omega⟩ fun a fr => ?_
  (repeat (refine sl_run orcCh_ok 1 rfl fr fun a fr => ?_))
  refine sl_ldf orcCh_ok (v := .int .u8 s) (fun w' S' => ⟨(show w'.cell? ((ad.add (i * 2)).add 0) = some (.int .u8 s) by rw [add_add]; exact hcell S' 0 _ (by rw [hs]; rfl)), hki⟩) fr rfl rfl rfl rfl rfl rfl rfl rfl hS fun a fr => ?_
  (repeat (refine sl_run orcCh_ok 1 rfl fr fun a fr => ?_))
  have fr := fr.bool (d := 179) rfl (show (s != s) = false by simp)
  (repeat (refine sl_run orcCh_ok 1 rfl fr fun a fr => ?_))
  refine sl_end ?_
  (repeat (with_reducible refine then_n ?_))
  skip; (repeat (with_reducible refine wp_seq ?_))
  refine cw_f fr rfl ?_
  refine wp_skip ?_
  (repeat (first | (with_reducible refine then_n ?_) | (with_reducible refine blk_n ?_)))
  skip; (repeat (with_reducible refine wp_seq ?_)); refine wp_region_lit ?_
  (repeat (refine wl_run orcCh_ok 1 rfl fr fun a fr => ?_))
  refine wpList_nil ?_; (repeat (with_reducible refine then_n ?_))
  have fr := fr.spell (d := 21) rfl (congrArg (Value.int .i64) (i64_next hlt (by omega)))
  refine ⟨i + 1, gs7, by omega, by omega, hC7, hI7, fr.sub ⟨rfl, rfl, rfl, rfl, rfl, trivial⟩, ?_⟩
  exact ((S.before2).tl).tl
end Go.Proofs.YticnjkdaccacaaaGreat.Sx
namespace Go.Proofs.YticnjkdaccacaaaGreat.Pl
open Go Go.RowKit Base Sx
theorem ChiefsGone_law (A0 : Option Addr) (c0 : Nat) (l0 : List PartT) (a1 a2 : Int) (W : World) (hc0 : l0.length ≤ c0) (hm0 : c0 ≤ maxLen) (g0 : Rdr.Row partR W A0 l0) {s : List PartT → Prop} (_ : s l0) (h1 : (Lit.int .u8 a1).wf = true) (h2 : (Lit.int .u64 a2).wf = true) : Calls Tryz.prog 7 #[.slice A0 l0.length c0, .int .u8 a1, .int .u64 a2] W fun e w' => e = .returned (.bool true) ∧ Below W.heap.size W w' := by
  obtain ⟨ps, rfl, hW, hR⟩ := parts_of g0
  rw [List.length_map] at hc0 ⊢
  exact (gone_call (fun w' S => hR.below S.below) hW ⟨hc0, hm0⟩ h1 h2).mono fun e w' ⟨h1, h2⟩ => ⟨h1, h2.below⟩
end Go.Proofs.YticnjkdaccacaaaGreat.Pl
end
section
namespace Go.Proofs.YticnjkdaccacaaaGreat.chiefsGone
open Go.ChangeShapes Go.WideShapes Go.ChangeAt Go.RowKit Base
open Go.ChangeMaps (open_string shut_string)
theorem own : ownKnob Tryz.prog.godebug = none := by kernel_rfl
theorem laidOut : laidOutB Tryz.prog = true := by kernel_rfl
set_option maxRecDepth 100000 in
theorem lifted (os : Os) (started : os.Started) (H : Type) (enc : TypeId × Value → H) :
    ReturnsInHanded {} Tryz.checked os 7 .any (Rows.chiefsGoneSpec.pre6 enc Tryz.prog Tryz.f7 Rows.chiefsGoneRow.domain false) (Rows.chiefsGoneSpec.post enc Tryz.prog Tryz.f7 false true false false) := by
  refine returnsInHanded_of_change_sized (C := Tryz.checked) own started (by kernel_rfl) Tryz.func7
    (ChangeSpec.witness6 (enc := enc) (C := Tryz.checked) false ⟨#[], #[.slice none 0 0, .int .u8 0, .int .u64 0], []⟩ 8 (by kernel_rfl) (by kernel_rfl) (by kernel_rfl) (by kernel_rfl)) ?_
  intro W base args ds gs before hval0 hW hcnd hsz0 _
  have hsz : (DataW.weightsEach Tryz.prog (Tryz.f7.params.toList ++ Rows.chiefsGoneSpec.plain.varTypes Tryz.prog) (ds ++ gs)).all (· ≤ reachBytes) = true := hsz0
  have hval : ∀ (j : Nat) t v, Tryz.f7.params[j]? = some t → args[j]? = some v → Value.okWide Tryz.prog W .any base t v := hval0
  have hW' := hW
  obtain ⟨p, q, hA0, hV, rfl, hfz, hnd⟩ := hW
  have hA : DataW.TrodAll enc Tryz.prog W 0 (fun _ => true) true Tryz.f7.params.toList args.toList ds p := hA0
  rw [Tryz.params7] at hA hval hsz
  obtain ⟨v0, vs0, d0, ds0, p0, q0, hargs, rfl, rfl, h0, r0⟩ := trodAll_cons hA
  obtain ⟨v1, vs1, d1, ds1, p1, q1, rfl, rfl, rfl, h1, r1⟩ := trodAll_cons r0
  obtain ⟨v2, vs2, d2, ds2, p2, q2, rfl, rfl, rfl, h2, r2⟩ := trodAll_cons r1
  obtain ⟨rfl, rfl, rfl⟩ := trodAll_nil r2
  obtain rfl : args = #[v0, v1, v2] := by cases args; simp_all
  obtain ⟨rfl, rfl⟩ := trodVars_none hV
  obtain ⟨a0, len0, cap0, rfl⟩ := okWide_slice Tryz.underlying22 (hval 0 22 v0 rfl rfl)
  have k0 := h0
  have lt0 : ∀ x ∈ p0, x.block < W.heap.size := by obtain ⟨m, hm⟩ := k0; exact DataW.trod_lt m _ _ _ hm
  obtain ⟨l0, rfl, c0, m0, g0, z0⟩ := Rdr.ofS_slice_arg (r := (Rdr.pair (Rdr.int .u8) (Rdr.pair (Rdr.sl (Rdr.pair (Rdr.int .u8) (Rdr.pair Rdr.str (Rdr.pair Rdr.str (Rdr.pair (Rdr.int .u32) Rdr.unit))))) Rdr.unit))) hsz (j := 0) (t := 22) rfl rfl (Rdr.ofS_sl Tryz.underlying22 (by kernel_rfl) (Rdr.ofS_st Tryz.underlying39 (by kernel_rfl) (Rdr.ofFS_cons rfl (Rdr.ofS (Rdr.of_int Tryz.underlying5 (by kernel_rfl))) (Rdr.ofFS_cons rfl (Rdr.ofS_sl Tryz.underlying37 (by kernel_rfl) (Rdr.ofS_st Tryz.underlying104 (by kernel_rfl) (Rdr.ofFS_cons rfl (Rdr.ofS (Rdr.of_int Tryz.underlying102 (by kernel_rfl))) (Rdr.ofFS_cons rfl (Rdr.ofS (Rdr.of_str Tryz.underlying9 (by kernel_rfl))) (Rdr.ofFS_cons rfl (Rdr.ofS (Rdr.of_str Tryz.underlying9 (by kernel_rfl))) (Rdr.ofFS_cons rfl (Rdr.ofS (Rdr.of_int Tryz.underlying31 (by kernel_rfl))) (Rdr.ofFS_nil _)))))) (B := 48) (by kernel_rfl) (by decide)) (Rdr.ofFS_nil _)))) (B := 32) (by kernel_rfl) (by decide)) h0
  obtain ⟨a1, rfl, rfl, rfl, w1⟩ := open_int Tryz.underlying5 (hval 1 5 v1 rfl rfl) h1
  obtain ⟨a2, rfl, rfl, rfl, w2⟩ := open_int Tryz.underlying58 (hval 2 58 v2 rfl rfl) h2
  clear hA0 hval0 hsz0 hsz
  refine (Pl.ChiefsGone_law a0 cap0 l0 a1 a2 W c0 m0 g0 z0 w1 w2).mono fun e W' ⟨he, bel⟩ => ?_
  subst he
  exact ⟨_, rfl, _, _, _, [], _, [], hW', trodAll_mk1 (shut_bool Tryz.underlying4 _), (trodAll_cons_mk (Below.trod laidOut (by kernel_rfl) (of_decide_eq_true (by kernel_rfl)) k0 bel lt0) (trodAll_cons_mk (shut_int Tryz.underlying5 w1) (trodAll_cons_mk (shut_int Tryz.underlying58 w2) trodAll_mk0))), rfl, bel.frame _, fun h => by cases h⟩
theorem over : Rows.chiefsGoneRow.holds Tryz.pinned (OpenSpec.ofChange Rows.chiefsGoneSpec) :=
  OpenClaim.holds_of_wide 7 Tryz.f7 rfl rfl rfl rfl rfl rfl rfl ⟨rfl, rfl, rfl, rfl, rfl⟩ rfl rfl rfl rfl rfl (by kernel_rfl) Tryz.func7 (by kernel_rfl)
    (of_decide_eq_true (by kernel_rfl)) (by unfold Func.isWrapper; first | (rw [if_pos (by decide +kernel)]; kernel_rfl) | (rw [if_neg (by decide +kernel)]; exact ⟨rfl, rfl⟩))
    (fun os started H enc _ => lifted os started H enc)
theorem proved : Rows.ChiefsGoneSaid := over
end Go.Proofs.YticnjkdaccacaaaGreat.chiefsGone
namespace Go.Proofs.YticnjkdaccacaaaGreat
theorem chiefsGone_holds : Rows.ChiefsGoneSaid := chiefsGone.proved
#print axioms chiefsGone_holds
end Go.Proofs.YticnjkdaccacaaaGreat
end
