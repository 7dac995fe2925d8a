/- Texts of this work, one behind the other. -/
import Derived.Test.YticnjkdaccacaaaGreatVChiefsAll16
import Derived.Test.YticnjkdaccacaaaGreatRows
import Derived.WalkKit
import Derived.ProofKit
import Derived.OpenShut
import Derived.ShutString
import Derived.ChangeOld
import Derived.Below
import Derived.SizedLaws
import Derived.KernelRfl
section
namespace Go.Proofs.YticnjkdaccacaaaGreat.Sx
open Go Go.RowKit Base _root_.Go.Proofs.YticnjkdaccacaaaGreat.Own OwnV Disk
def orcAl : Orc := ⟨[(3, .int .i64), (4, .bool), (5, .int .u8), (31, .int .u32), (51, .array 4 3)],
  [(3, 1), (4, 1), (5, 1), (31, 1), (51, 4)]⟩
theorem orcAl_ok : orcAl.Ok Tryz.prog := ⟨⟨Tryz.underlying3, Tryz.underlying4, Tryz.underlying5, Tryz.underlying31, Tryz.underlying51, trivial⟩, ⟨by kernel_rfl, by kernel_rfl, by kernel_rfl, by kernel_rfl, by kernel_rfl, trivial⟩⟩
def ysV (ys : List Int) : List Value := ys.map (Value.int .i64)
def MsgB (x : MsgT) : Prop := ResB x.2.2.2.2.2.1
set_option maxRecDepth 100000 in
set_option maxHeartbeats 16000000 in
theorem lawAll_call {w : World} {Ap Am : Option Addr} {cp cm : Nat} {ps : List RawP} {ms : List MsgT} (hR : ∀ w', Sat w w' [] → RdParts w' Ap ps) (hW : PartsW ps) (hmp : ps.length ≤ cp ∧ cp ≤ maxLen) (hM : Rdr.Row msgR w Am ms) (hmm : ms.length ≤ cm ∧ cm ≤ maxLen) (hMB : ∀ x ∈ ms, MsgB x) :
    Calls Tryz.prog 5 #[.slice Ap ps.length cp, .slice Am ms.length cm] w fun e w' => e = .returned (.bool true) ∧ Sat w w' [] := by
  have S := Sat.start w
  refine calls_start (N := 143) [.slice Ap ps.length cp, .slice Am ms.length cm] Tryz.func5 rfl rfl rfl (vok_c (vok_sl hmp) (vok_c (vok_sl hmm) rfl)) fun a fr => ?_
  skip; (repeat (with_reducible refine wp_seq ?_)); refine wp_region_lit ?_
  (repeat (refine wl_run orcCh_ok 1 rfl fr fun a fr => ?_))
  refine wpList_nil ?_; (repeat (with_reducible refine then_n ?_))
  skip; (repeat (with_reducible refine wp_seq ?_)); refine wp_region_lit ?_
  (repeat (refine wl_run orcCh_ok 1 rfl fr fun a fr => ?_))
  refine wpList_nil ?_; (repeat (with_reducible refine then_n ?_))
  refine bs 24 fr rfl (fun q1 fr => ?_) (fun q1 fr => ?_)
  · skip; (repeat (with_reducible refine wp_seq ?_))
    refine cw_t fr rfl ?_
    skip; (repeat (with_reducible refine wp_seq ?_)); refine wp_region_lit ?_
    (repeat (refine wl_run orcCh_ok 1 rfl fr fun a fr => ?_))
    refine wl_call fr rfl rfl rfl rfl enLives (lives_call S) ?_
    rintro _ w5 ⟨rfl, S⟩
    refine ⟨_, rfl, rfl, fun a fr => ?_⟩
    (repeat (refine wl_run orcCh_ok 1 rfl fr fun a fr => ?_))
    refine wpList_nil ?_; (repeat (with_reducible refine then_n ?_))
    refine wp_ret ?_
    skip; (repeat (first | (with_reducible refine then_r ?_) | (with_reducible refine blk_r ?_) | (with_reducible refine ng_r ?_)))
    exact ret1 fr rfl rfl ⟨rfl, S⟩
  have hm100 : ms.length ≤ 100 := by have := of_decide_eq_false q1; omega
  skip; (repeat (with_reducible refine wp_seq ?_))
  refine cw_f fr rfl ?_
  refine wp_skip ?_
  (with_reducible refine then_n ?_)
  skip; (repeat (with_reducible refine wp_seq ?_)); refine wp_region_lit ?_
  (repeat (refine wl_run orcCh_ok 1 rfl fr fun a fr => ?_))
  refine wl_call fr rfl rfl rfl rfl enOpened (opened_call S) ?_
  rintro _ w1 ⟨d, b, bl, bm, bk, bw, rfl, S⟩
  refine ⟨_, rfl, rfl, fun a fr => ?_⟩
  (repeat (refine wl_run orcCh_ok 1 rfl fr fun a fr => ?_))
  refine wpList_nil ?_; (repeat (with_reducible refine then_n ?_))
  skip; (repeat (with_reducible refine wp_seq ?_)); refine wp_region_lit ?_
  (repeat (refine wl_run orcCh_ok 1 rfl fr fun a fr => ?_))
  refine wpList_nil ?_; (repeat (with_reducible refine then_n ?_))
  skip; (repeat (with_reducible refine wp_seq ?_))
  refine cw_f fr rfl ?_
  refine wp_skip ?_
  (with_reducible refine then_n ?_)
  skip; (repeat (with_reducible refine wp_seq ?_)); refine wp_region_lit ?_
  (repeat (refine wl_run orcCh_ok 1 rfl fr fun a fr => ?_))
  refine wl_call fr rfl rfl rfl rfl enBegin (begin_call (ps := ps) hR hW hmp (fun p hp => by cases hp) (Nat.zero_le _) (fun p hp => by cases hp) (LogI.start.b (Nat.zero_le _)) S) ?_
  obtain ⟨hadd1, L1⟩ := LogI.start.add (r := beginR 1) (by decide) (by omega)
  rintro _ w4 (⟨hno, rfl, S⟩ | ⟨-, h2, -⟩ | ⟨-, -, h3, -⟩ | ⟨hok, -, -, A4, c4, bn, rfl, hv4, hGI, S⟩)
  · refine ⟨_, rfl, rfl, fun a fr => ?_⟩
    (repeat (refine wl_run orcCh_ok 1 rfl fr fun a fr => ?_))
    refine wpList_nil ?_; (repeat (with_reducible refine then_n ?_))
    skip; (repeat (with_reducible refine wp_seq ?_)); refine wp_region_lit ?_
    (repeat (refine wl_run orcCh_ok 1 rfl fr fun a fr => ?_))
    refine wpList_nil ?_; (repeat (with_reducible refine then_n ?_))
    skip; (repeat (with_reducible refine wp_seq ?_))
    refine cw_t fr rfl ?_
    skip; (repeat (with_reducible refine wp_seq ?_)); refine wp_region_lit ?_
    (repeat (refine wl_run orcCh_ok 1 rfl fr fun a fr => ?_))
    refine wl_call fr rfl rfl rfl rfl enLives (lives_call (Sat.past S)) ?_
    rintro _ w5 ⟨rfl, S⟩
    refine ⟨_, rfl, rfl, fun a fr => ?_⟩
    (repeat (refine wl_run orcCh_ok 1 rfl fr fun a fr => ?_))
    refine wpList_nil ?_; (repeat (with_reducible refine then_n ?_))
    refine wp_ret ?_
    skip; (repeat (first | (with_reducible refine then_r ?_) | (with_reducible refine blk_r ?_) | (with_reducible refine ng_r ?_)))
    exact ret1 fr rfl rfl ⟨rfl, S⟩
  · exact absurd h2 (by decide)
  · have h3 : (addEI D0 0 (beginR 1) != 0) = true := h3
    rw [hadd1] at h3
    exact absurd h3 (by decide)
  refine ⟨.tuple #[.int .u32 1, .slice A4 ps.length ps.length, .int .i64 0], rfl, hv4, fun a fr => ?_⟩
  (repeat (refine wl_run orcCh_ok 1 rfl fr fun a fr => ?_))
  refine wpList_nil ?_; (repeat (with_reducible refine then_n ?_))
  have S := S.tl
  obtain ⟨x1, hx1⟩ : ∃ z, z = addXI D0 0 (beginR 1) := ⟨_, rfl⟩
  obtain ⟨D1, hD1⟩ : ∃ z, z = (addDI D0 0 (beginR 1)).sync := ⟨_, rfl⟩
  have L1 := L1.sync
  rw [← hx1, ← hD1] at L1
  obtain ⟨L, hL⟩ : ∃ L, L = ps.map (·.1) := ⟨_, rfl⟩
  have hL7 : L ∈ seven := by
    have := plan_seven hok
    rw [List.map_map] at this
    rw [hL]; exact this
  have hLl : L.length = ps.length := by rw [hL, List.length_map]
  have hlen3 : ps.length ≤ 3 := by have := plan_few hok; rwa [List.length_map] at this
  rw [← hL] at S hGI
  have S : Sat w w4 (chW b bl bm 1 bk bw 0 d [(bn, newG zV 1 L)] [(1, 8)] x1 D1 []) := by rw [hx1, hD1]; exact S
  have hC1 : ss0 [(bn, newG zV 1 L)] [(1, 8)] x1 D1 = ⟨[G0 L], [(1, 8)], x1, D1⟩ := rfl
  have hI1 : ∀ p ∈ [(bn, newG zV 1 L)], GlI p.2 := fun p hp => by
    have : p = (bn, newG zV 1 L) := by simpa using hp
    rw [this]; exact hGI
  generalize [(bn, newG zV 1 L)] = gs1 at S hC1 hI1
  generalize [((1 : Int), (8 : Int))] = m1 at S hC1
  have hA1 := AllI.start hL7
  rw [hLl] at hA1
  skip; (repeat (with_reducible refine wp_seq ?_)); refine wp_region_lit ?_
  (repeat (refine wl_run orcCh_ok 1 rfl fr fun a fr => ?_))
  refine wpList_nil ?_; (repeat (with_reducible refine then_n ?_))
  skip; (repeat (with_reducible refine wp_seq ?_))
  refine cw_f fr rfl ?_
  refine wp_skip ?_
  (with_reducible refine then_n ?_)
  skip; (repeat (with_reducible refine wp_seq ?_)); refine wp_region_lit ?_
  refine wl_allocg (zs := ysV [0, 0, 0, 0]) fr rfl rfl rfl rfl (fun _ => by kernel_rfl) rfl S ?_
  intro w6 by_ S a fr
  refine wpList_nil ?_; (repeat (with_reducible refine then_n ?_))
  skip; (repeat (with_reducible refine wp_seq ?_)); refine wp_region_lit ?_
  (repeat (refine wl_run orcCh_ok 1 rfl fr fun a fr => ?_))
  refine wpList_nil ?_; (repeat (with_reducible refine then_n ?_))
  skip; (repeat (with_reducible refine wp_seq ?_)); refine wp_region_lit ?_
  (repeat (refine wl_run orcCh_ok 1 rfl fr fun a fr => ?_))
  refine wpList_nil ?_; (repeat (with_reducible refine then_n ?_))
  skip; (repeat (with_reducible refine wp_seq ?_)); refine wp_region_lit ?_
  (repeat (refine wl_run orcCh_ok 1 rfl fr fun a fr => ?_))
  refine wpList_nil ?_; (repeat (with_reducible refine then_n ?_))
  have S := Sat.behind S
  skip; (repeat (with_reducible refine wp_seq ?_))
  refine wp_block ?_
  refine cw_loop (fun r a w2 => ∃ (j : Nat) (gs : Gs) (G : Gl RsT) (m : List (Int × Int)) (x : Int) (D : Dk) (st : Int) (ys : List Int) (miss : Int), j + r = ms.length + 1 ∧ j ≤ ms.length ∧ ss0 gs m x D = ⟨[G], m, x, D⟩ ∧ (∀ p ∈ gs, GlI p.2) ∧ AllI L G st ys miss ∧ LogI D x (1 + j) ∧ Fr 143 a [(0, .slice Ap ps.length cp), (1, .slice Am ms.length cm), (6, .pointer (some ⟨b, 0, none⟩)), (7, .int .u32 1), (10, .pointer (some ⟨by_, 0, none⟩)), (11, .int .i64 miss), (12, .int .i64 st), (13, .int .i64 (j : Int))] ∧ Sat w w2 (chW b bl bm 1 bk bw 0 d gs m x D [stA 51 by_ (ysV ys)])) (ms.length + 1)
    ⟨0, gs1, G0 L, m1, x1, D1, 0, [0, 0, 0, 0], (ps.length : Int), by omega, by omega, hC1, hI1, hA1, L1, fr.sub ⟨rfl, rfl, rfl, rfl, rfl, rfl, rfl, rfl, trivial⟩, S⟩ ?_ ?_
  · rintro a w2 ⟨j, _, _, _, _, _, _, _, _, h, h', -⟩
    omega
  clear fr S hC1 hI1 hA1
  rintro r2 a w5 ⟨j, gs, G, m, x, D, st, ys, miss, hj, hj', hC, hI, hA, hlog, fr, S⟩
  skip; (repeat (with_reducible refine wp_seq ?_)); refine wp_region_lit ?_
  (repeat (refine wl_run orcCh_ok 1 rfl fr fun a fr => ?_))
  refine wpList_nil ?_; (repeat (with_reducible refine then_n ?_))
  by_cases hlt : j < ms.length
  rotate_left
  · have fr := fr.bool (d := 51) rfl (decide_eq_false (show ¬ (j : Int) < (ms.length : Int) by omega))
    skip; (repeat (with_reducible refine wp_seq ?_))
    refine cw_f fr rfl ?_
    refine wp_exit ?_
    skip; (repeat (first | (with_reducible refine then_e ?_) | (with_reducible refine ng_e ?_) | (with_reducible refine blk_e (by decide) ?_))); (with_reducible refine blk_y ?_); (repeat (with_reducible refine then_n ?_))
    skip; (repeat (with_reducible refine wp_seq ?_)); refine wp_region_lit ?_
    (repeat (refine wl_run orcCh_ok 1 rfl fr fun a fr => ?_))
    refine wl_call fr rfl rfl rfl rfl enLives (lives_call (Sat.past S).tl) ?_
    rintro _ w7 ⟨rfl, S⟩
    refine ⟨_, rfl, rfl, fun a fr => ?_⟩
    (repeat (refine wl_run orcCh_ok 1 rfl fr fun a fr => ?_))
    refine wpList_nil ?_; (repeat (with_reducible refine then_n ?_))
    refine wp_ret ?_
    skip; (repeat (first | (with_reducible refine then_r ?_) | (with_reducible refine blk_r ?_) | (with_reducible refine ng_r ?_)))
    exact ret1 fr rfl rfl ⟨rfl, S⟩
  have fr := fr.bool (d := 51) rfl (decide_eq_true (show (j : Int) < (ms.length : Int) by omega))
  skip; (repeat (with_reducible refine wp_seq ?_))
  refine cw_t fr rfl ?_
  refine wp_skip ?_
  (with_reducible refine then_n ?_)
  obtain ⟨ad, Ao, no, co, Ar, cr, rs, hAm, hcell, hmg, hrd, hrw, hrl⟩ := msg_at hM hlt
  have hmB := hMB _ (List.getElem_mem hlt)
  unfold MsgB at hmB
  rw [← hrl] at hmB
  generalize ms[j].1 = s at hcell hmg
  generalize ms[j].2.1 = f at hcell hmg
  generalize ms[j].2.2.1 = t at hcell hmg
  generalize ms[j].2.2.2.1 = g at hcell hmg
  skip; (repeat (with_reducible refine wp_seq ?_))
  refine wp_block ?_
  skip; (repeat (with_reducible refine wp_seq ?_)); refine wp_region_lit ?_
  (repeat (refine wl_run orcCh_ok 1 rfl fr fun a fr => ?_))
  refine wl_ldrs (cs := mgV s f t g Ao no co Ar rs.length cr) orcCh_ok (i := (j : Int)) (z := 6) ⟨ad, hAm, fun j' u hu => RR.cellAt (Sat.past S).below (hcell j' u hu)⟩ (hmg.ok Ao Ar) fr rfl rfl rfl rfl rfl rfl rfl rfl rfl rfl rfl rfl rfl rfl rfl rfl ⟨by omega, by omega⟩ fun a fr => ?_
  refine wl_allocg (zs := mgV 0 0 0 0 none 0 0 none 0 0) fr rfl rfl rfl rfl (fun _ => by kernel_rfl) rfl S ?_
  intro w7 bx S a fr
  refine wl_stg (cs := mgV 0 0 0 0 none 0 0 none 0 0) (vs := mgV s f t g Ao no co Ar rs.length cr) orcCh_ok fr rfl rfl rfl rfl rfl rfl rfl ?_ S ?_
  · simp only [mgV, List.all_cons, List.all_nil, Bool.and_true, Bool.and_eq_true]
    exact ⟨⟨rfl, hmg.s⟩, ⟨rfl, hmg.f⟩, ⟨rfl, hmg.t⟩, ⟨rfl, hmg.g⟩, ⟨rfl, vok_sl (A := Ao) hmg.o⟩, rfl, vok_sl (A := Ar) hmg.r⟩
  intro w8 S
  refine wpList_nil ?_; (repeat (with_reducible refine then_n ?_))
  skip; (repeat (with_reducible refine wp_seq ?_)); refine wp_region_lit ?_
  (repeat (refine wl_run orcCh_ok 1 rfl fr fun a fr => ?_))
  refine wl_ldsub orcCh_ok (cs := mgV s f t g Ao no co Ar rs.length cr) (fun j u hu => (Sat.stAt S 0 rfl hu).1) (hmg.ok Ao Ar) fr rfl rfl rfl rfl rfl rfl rfl rfl fun a fr => ?_
  have S := Sat.behind S
  have hrlen : rs.length * 24 ≤ 140737488355328 := by
    have := hmB.1
    rwa [show (rawL rs).length = rs.length by simp [rawL]] at this
  have hrows : ∀ r ∈ rs, r.2.2.length * 24 ≤ 140737488355328 := fun r hr => hmB.2 (r.2.2, ()) (List.mem_map.2 ⟨r, hr, rfl⟩)
  refine wl_call fr rfl rfl rfl rfl enCame (came_call (Ao := Ao) (Ar := Ar) hmg (fun w' S' => hrd.below (Sat.below S')) hrw hrlen hrows hmB hI (hlog.b (by omega)) S) ?_
  rintro _ w9 ⟨A9, c9, gs2, rfl, hv9, hg2, hI2, -, S⟩
  rw [hC] at hv9 hg2 S
  obtain ⟨G2, hG2, hA2⟩ := all_step hL7 hA (m := m) hlog (by omega) s f t g (rawL rs)
  have hlog2 := log_came hL7 hA.one (m := m) hlog (by omega) s f t g (rawL rs)
  refine ⟨_, by rw [hC], hv9, fun a fr => ?_⟩
  obtain ⟨C2, hC2⟩ : ∃ C2, C2 = cameS ⟨[G], m, x, D⟩ s f t g (rawL rs) := ⟨_, rfl⟩
  obtain ⟨z, hz⟩ : ∃ z, z = (cameO ⟨[G], m, x, D⟩ s f t g (rawL rs)).2 := ⟨_, rfl⟩
  obtain ⟨os, hos⟩ : ∃ os, os = (cameO ⟨[G], m, x, D⟩ s f t g (rawL rs)).1 := ⟨_, rfl⟩
  rw [← hz, ← hos] at fr
  rw [← hC2] at hg2 hG2 hlog2 S
  rw [← hz] at hA2
  rw [← hC2, hG2] at *
  have S := S.tl
  have hss : ss0 gs2 C2.m C2.x C2.D = ⟨[G2], C2.m, C2.x, C2.D⟩ := by unfold ss0; rw [hg2]
  (repeat (refine wl_run orcCh_ok 1 rfl fr fun a fr => ?_))
  refine wpList_nil ?_; (repeat (with_reducible refine then_n ?_))
  skip; (repeat (with_reducible refine wp_seq ?_)); refine wp_region_lit ?_
  (repeat (refine wl_run orcCh_ok 1 rfl fr fun a fr => ?_))
  refine wpList_nil ?_; (repeat (with_reducible refine then_n ?_))
  skip; (repeat (with_reducible refine wp_seq ?_)); refine wp_region_lit ?_
  (repeat (refine wl_run orcCh_ok 1 rfl fr fun a fr => ?_))
  refine wpList_nil ?_; (repeat (with_reducible refine then_n ?_))
  have hfw : 0 ≤ f ∧ f ≤ 255 := by
    have h := hmg.f
    rw [wf_int] at h
    have e1 : IntKind.u8.min = 0 := by decide
    have e2 : IntKind.u8.max = 255 := by decide
    omega
  obtain ⟨cd, hcd⟩ : ∃ c : Bool, c = (z == 0 && g == 1) := ⟨_, rfl⟩
  skip; (repeat (with_reducible refine wp_seq ?_))
  refine wp_block ?_
  refine cw_loop (fun r a w2 => ∃ (k : Nat), k + r = ps.length + 1 ∧ k ≤ ps.length ∧ Fr 143 a [(0, .slice Ap ps.length cp), (1, .slice Am ms.length cm), (6, .pointer (some ⟨b, 0, none⟩)), (7, .int .u32 1), (10, .pointer (some ⟨by_, 0, none⟩)), (11, .int .i64 miss), (12, .int .i64 st), (13, .int .i64 (j : Int)), (14, .pointer (some ⟨bx, 0, none⟩)), (16, .int .i64 z), (17, .int .i64 (if (hasI (L.take k) f && cd) = true then 1 else 0)), (18, .int .i64 (k : Int))] ∧ Sat w w2 (chW b bl bm 1 bk bw 0 d gs2 C2.m C2.x C2.D [stA 42 bx (mgV s f t g Ao no co Ar rs.length cr), stA 51 by_ (ysV ys)])) (ps.length + 1)
    ⟨0, by omega, by omega, fr.sub ⟨rfl, rfl, rfl, rfl, rfl, rfl, rfl, rfl, rfl, rfl, rfl, rfl, trivial⟩, S⟩ ?_ ?_
  · rintro a w2 ⟨k, h, h', -⟩
    omega
  clear fr S
  rintro r3 a w10 ⟨k, hk, hk', fr, S⟩
  skip; (repeat (with_reducible refine wp_seq ?_)); refine wp_region_lit ?_
  (repeat (refine wl_run orcCh_ok 1 rfl fr fun a fr => ?_))
  refine wpList_nil ?_; (repeat (with_reducible refine then_n ?_))
  by_cases hkl : k < ps.length
  · have fr := fr.bool (d := 67) rfl (decide_eq_true (show (k : Int) < (ps.length : Int) by omega))
    skip; (repeat (with_reducible refine wp_seq ?_))
    refine cw_t fr rfl ?_
    refine wp_skip ?_
    (with_reducible refine then_n ?_)
    obtain ⟨adp, hAp⟩ := (hR _ (Sat.lastsT [_, _] (Sat.past S))).some hkl
    have hcellp : ∀ w', Sat w w' [stA 42 bx (mgV s f t g Ao no co Ar rs.length cr)] → ∀ j u, (pcV ps[k])[j]? = some u → w'.cell? (adp.add (k * 2 + j)) = some u := fun w' S' => (hR _ (Sat.lastsT [_] S')).cell k hkl adp hAp
    have hkL : k < L.length := by omega
    have hLk : L[k] = ps[k].1 := by
      have : L[k]? = some ps[k].1 := by rw [hL, List.getElem?_map, List.getElem?_eq_getElem hkl]; rfl
      rw [List.getElem?_eq_getElem hkL] at this
      injection this
    have hks := hW.k _ (List.getElem_mem hkl)
    have htk := hasI_take hkL f
    rw [hLk] at htk
    obtain ⟨sk, hsk⟩ : ∃ s, s = ps[k].1 := ⟨_, rfl⟩
    rw [← hsk] at hks htk
    have hcom : (f == sk) = (sk == f) := BEq.comm
    rw [hcom] at htk
    skip; (repeat (with_reducible refine wp_seq ?_))
    refine wp_block ?_
    (repeat (with_reducible refine wp_seq ?_))
    refine cw_at (fun a w2 => FrD [] 143 a [(0, .slice Ap ps.length cp), (1, .slice Am ms.length cm), (6, .pointer (some ⟨b, 0, none⟩)), (7, .int .u32 1), (10, .pointer (some ⟨by_, 0, none⟩)), (11, .int .i64 miss), (12, .int .i64 st), (13, .int .i64 (j : Int)), (14, .pointer (some ⟨bx, 0, none⟩)), (16, .int .i64 z), (17, .int .i64 (if (hasI (L.take k) f && cd) = true then 1 else 0)), (18, .int .i64 (k : Int)), (87, .bool (sk == f && cd))] ∧ Sat w w2 (chW b bl bm 1 bk bw 0 d gs2 C2.m C2.x C2.D [stA 42 bx (mgV s f t g Ao no co Ar rs.length cr), stA 51 by_ (ysV ys)])) ?_ ?_
    · refine wp_region_sl [.one (0, true, some 70), .one (1, true, some 71), .one (2, true, some 72), .one (3, true, some 73), .one (4, true, some 74), .one (5, true, some 75), .one (6, true, some 76), .one (7, true, some 77), .one (8, true, some 78), .one (9, true, some 79), .one (10, true, some 80), .one (11, true, some 81), .one (12, true, some 82), .one (13, true, some 83), .one (14, true, some 84), .one (15, true, some 85), .one (16, true, some 86), .one (17, true, some 87)]
                [.one ⟨true, some 70, (Go.Op.move (Go.Operand.tmp 0)), 22, none⟩,
                .one ⟨true, some 71, (Go.Op.move (Go.Operand.tmp 18)), 3, none⟩,
                .one ⟨true, some 72, (Go.Op.indexAddr 22 (Go.Operand.tmp 70) (Go.Operand.tmp 71)), 0, none⟩,
                .one ⟨true, some 73, (Go.Op.fieldAddr 39 (Go.Operand.tmp 72) 0), 0, none⟩,
                .one ⟨true, some 74, (Go.Op.load 5 (Go.Operand.tmp 73)), 5, none⟩,
                .one ⟨true, some 75, (Go.Op.fieldAddr 42 (Go.Operand.tmp 14) 1), 0, none⟩,
                .one ⟨true, some 76, (Go.Op.load 5 (Go.Operand.tmp 75)), 5, none⟩,
                .one ⟨true, some 77, (Go.Op.binOp Go.BinOp.eql 5 (Go.Operand.tmp 74) (Go.Operand.tmp 76) 5), 4, none⟩,
                .one ⟨true, some 78, (Go.Op.move (Go.Operand.tmp 77)), 4, none⟩,
                .one ⟨true, some 79, (Go.Op.move (Go.Operand.tmp 16)), 28, some (78, true)⟩,
                .one ⟨true, some 80, (Go.Op.binOp Go.BinOp.eql 28 (Go.Operand.tmp 79) (Go.Operand.const (Go.Value.int Go.IntKind.i64 0)) 28), 4, some (78, true)⟩,
                .one ⟨true, some 81, (Go.Op.pick (Go.Operand.tmp 78) (Go.Operand.tmp 80) (Go.Operand.const (Go.Value.bool false))), 4, none⟩,
                .one ⟨true, some 82, (Go.Op.move (Go.Operand.tmp 81)), 4, none⟩,
                .one ⟨true, some 83, (Go.Op.fieldAddr 42 (Go.Operand.tmp 14) 3), 0, some (82, true)⟩,
                .one ⟨true, some 84, (Go.Op.load 31 (Go.Operand.tmp 83)), 31, some (82, true)⟩,
                .one ⟨true, some 85, (Go.Op.move (Go.Operand.tmp 7)), 31, some (82, true)⟩,
                .one ⟨true, some 86, (Go.Op.binOp Go.BinOp.eql 31 (Go.Operand.tmp 84) (Go.Operand.tmp 85) 31), 4, some (82, true)⟩,
                .one ⟨true, some 87, (Go.Op.pick (Go.Operand.tmp 82) (Go.Operand.tmp 86) (Go.Operand.const (Go.Value.bool false))), 4, none⟩]
                (fun v => Sat w v [stA 42 bx (mgV s f t g Ao no co Ar rs.length cr)]) rfl (by kernel_rfl) (by kernel_rfl) ?_ ?_
      · exact (Sat.past S.drew).firsts [_]
      have S := S.drew
      have hS : Sat w _ [stA 42 bx (mgV s f t g Ao no co Ar rs.length cr)] := (Sat.past S).firsts [_]
      (repeat (refine sl_run orcCh_ok 1 rfl fr fun a fr => ?_))
      refine sl_ixe orcCh_ok hAp fr rfl rfl rfl rfl rfl rfl rfl rfl rfl ⟨by omega, by omega⟩ fun a fr => ?_
      (repeat (refine sl_run orcCh_ok 1 rfl fr fun a fr => ?_))
      refine sl_ldf orcCh_ok (v := .int .u8 sk) (fun w' S' => ⟨(show w'.cell? ((adp.add (k * 2)).add 0) = some (.int .u8 sk) by rw [add_add]; exact hcellp w' S' 0 _ (by rw [hsk]; rfl)), hks⟩) fr rfl rfl rfl rfl rfl rfl rfl rfl hS fun a fr => ?_
      (repeat (first | refine sl_run orcCh_ok 1 rfl fr fun a fr => ?_ | refine sl_ldf orcCh_ok (fun _ S => Sat.stAt S 0 rfl rfl) fr rfl rfl rfl rfl rfl rfl rfl rfl (by assumption) fun a fr => ?_))
      refine bs 78 fr rfl (fun p1 fr => ?_) (fun p1 fr => ?_)
      · (repeat (first | refine sl_run orcCh_ok 1 rfl fr fun a fr => ?_ | refine sl_ldf orcCh_ok (fun _ S => Sat.stAt S 0 rfl rfl) fr rfl rfl rfl rfl rfl rfl rfl rfl (by assumption) fun a fr => ?_))
        refine bs 82 fr rfl (fun p2 fr => ?_) (fun p2 fr => ?_)
        · (repeat (first | refine sl_run orcCh_ok 1 rfl fr fun a fr => ?_ | refine sl_ldf orcCh_ok (fun _ S => Sat.stAt S 0 rfl rfl) fr rfl rfl rfl rfl rfl rfl rfl rfl (by assumption) fun a fr => ?_))
          refine sl_end ?_
          (repeat (with_reducible refine then_n ?_))
          have e : (sk == f && cd) = (g == 1) := by rw [hcd, show (sk == f) = true from p1, show (z == 0) = true from p2]; simp
          rw [e]
          exact ⟨fr.sub ⟨rfl, rfl, rfl, rfl, rfl, rfl, rfl, rfl, rfl, rfl, rfl, rfl, rfl, trivial⟩, S⟩
        · (repeat (first | refine sl_run orcCh_ok 1 rfl fr fun a fr => ?_ | refine sl_ldf orcCh_ok (fun _ S => Sat.stAt S 0 rfl rfl) fr rfl rfl rfl rfl rfl rfl rfl rfl (by assumption) fun a fr => ?_))
          refine sl_end ?_
          (repeat (with_reducible refine then_n ?_))
          have e : (sk == f && cd) = false := by rw [hcd, show (z == 0) = false from p2]; simp
          rw [e]
          exact ⟨fr.sub ⟨rfl, rfl, rfl, rfl, rfl, rfl, rfl, rfl, rfl, rfl, rfl, rfl, rfl, trivial⟩, S⟩
      · (repeat (first | refine sl_run orcCh_ok 1 rfl fr fun a fr => ?_ | refine sl_ldf orcCh_ok (fun _ S => Sat.stAt S 0 rfl rfl) fr rfl rfl rfl rfl rfl rfl rfl rfl (by assumption) fun a fr => ?_))
        refine sl_end ?_
        (repeat (with_reducible refine then_n ?_))
        have e : (sk == f && cd) = false := by rw [show (sk == f) = false from p1]; simp
        rw [e]
        exact ⟨fr.sub ⟨rfl, rfl, rfl, rfl, rfl, rfl, rfl, rfl, rfl, rfl, rfl, rfl, rfl, trivial⟩, S⟩
    clear fr S
    rintro a w11 ⟨fr, S⟩
    refine bs 87 fr rfl (fun p3 fr => ?_) (fun p3 fr => ?_)
    · skip; (repeat (with_reducible refine wp_seq ?_))
      refine cw_t fr rfl ?_
      skip; (repeat (with_reducible refine wp_seq ?_)); refine wp_region_lit ?_
      (repeat (refine wl_run orcCh_ok 1 rfl fr fun a fr => ?_))
      refine wpList_nil ?_; (repeat (with_reducible refine then_n ?_))
      (repeat (first | (with_reducible refine then_n ?_) | (with_reducible refine blk_n ?_)))
      skip; (repeat (with_reducible refine wp_seq ?_)); refine wp_region_lit ?_
      (repeat (refine wl_run orcCh_ok 1 rfl fr fun a fr => ?_))
      refine wpList_nil ?_; (repeat (with_reducible refine then_n ?_))
      have fr := fr.spell (d := 18) rfl (congrArg (Value.int .i64) (i64_next hkl (by omega)))
      have fr := fr.spell (d := 17) rfl (show Value.int .i64 1 = .int .i64 (if (hasI (L.take (k + 1)) f && cd) = true then 1 else 0) by
        rw [Bool.and_eq_true] at p3
        rw [htk, p3.1, p3.2]; simp)
      exact ⟨k + 1, by omega, by omega, fr.sub ⟨rfl, rfl, rfl, rfl, rfl, rfl, rfl, rfl, rfl, rfl, rfl, rfl, trivial⟩, S⟩
    · skip; (repeat (with_reducible refine wp_seq ?_))
      refine cw_f fr rfl ?_
      refine wp_skip ?_
      (repeat (first | (with_reducible refine then_n ?_) | (with_reducible refine blk_n ?_)))
      skip; (repeat (with_reducible refine wp_seq ?_)); refine wp_region_lit ?_
      (repeat (refine wl_run orcCh_ok 1 rfl fr fun a fr => ?_))
      refine wpList_nil ?_; (repeat (with_reducible refine then_n ?_))
      have fr := fr.spell (d := 18) rfl (congrArg (Value.int .i64) (i64_next hkl (by omega)))
      have e9 : (hasI (L.take (k + 1)) f && cd) = (hasI (L.take k) f && cd) := by
        rw [htk]
        revert p3
        cases hasI (L.take k) f <;> cases (sk == f) <;> cases cd <;> simp
      have fr := fr.spell (d := 17) rfl (show Value.int .i64 (if (hasI (L.take k) f && cd) = true then 1 else 0) = .int .i64 (if (hasI (L.take (k + 1)) f && cd) = true then 1 else 0) by rw [e9])
      exact ⟨k + 1, by omega, by omega, fr.sub ⟨rfl, rfl, rfl, rfl, rfl, rfl, rfl, rfl, rfl, rfl, rfl, rfl, trivial⟩, S⟩
  have fr := fr.bool (d := 67) rfl (decide_eq_false (show ¬ (k : Int) < (ps.length : Int) by omega))
  obtain rfl : k = ps.length := by omega
  have fr := fr.spell (d := 17) rfl (show Value.int .i64 (if (hasI (L.take ps.length) f && cd) = true then 1 else 0) = .int .i64 (if ofL L z f g = true then 1 else 0) by rw [← hLl, List.take_length, hcd]; rfl)
  skip; (repeat (with_reducible refine wp_seq ?_))
  refine cw_f fr rfl ?_
  refine wp_exit ?_
  skip; (repeat (first | (with_reducible refine then_e ?_) | (with_reducible refine ng_e ?_) | (with_reducible refine blk_e (by decide) ?_))); (with_reducible refine blk_y ?_); (repeat (with_reducible refine then_n ?_))
  have hys4 : ys.length = 4 := by rw [hA.hys]; unfold ysOf; rw [List.length_map]; exact hA.one.len hL7
  cases ho : ofL L z f g with
  | false =>
    obtain ⟨n1, n2, n3⟩ := all_no (L := L) (s := s) (f := f) (g := g) (code := z) (st := st) (ys := ys) (miss := miss) ho
    have hA3 : AllI L G2 st ys miss := by rw [n1, n2, n3] at hA2; exact hA2
    have fr := fr.spell (d := 17) rfl (show Value.int .i64 (if ofL L z f g = true then 1 else 0) = .int .i64 0 by rw [ho]; rfl)
    skip; (repeat (with_reducible refine wp_seq ?_)); refine wp_region_lit ?_
    (repeat (refine wl_run orcCh_ok 1 rfl fr fun a fr => ?_))
    refine wpList_nil ?_; (repeat (with_reducible refine then_n ?_))
    skip; (repeat (with_reducible refine wp_seq ?_))
    refine cw_f fr rfl ?_
    refine wp_skip ?_
    (repeat (first | (with_reducible refine then_n ?_) | (with_reducible refine blk_n ?_)))
    skip; (repeat (with_reducible refine wp_seq ?_)); refine wp_region_lit ?_
    (repeat (refine wl_run orcCh_ok 1 rfl fr fun a fr => ?_))
    refine wpList_nil ?_; (repeat (with_reducible refine then_n ?_))
    skip; (repeat (with_reducible refine wp_seq ?_))
    refine cw_f fr rfl ?_
    refine wp_skip ?_
    (repeat (first | (with_reducible refine then_n ?_) | (with_reducible refine blk_n ?_)))
    (
  obtain ⟨pT, lT, zT, hT, hTp, hTz⟩ := told_all hA3
  skip; (repeat (with_reducible refine wp_seq ?_)); refine wp_region_lit ?_
  (repeat (refine wl_run orcCh_ok 1 rfl fr fun a fr => ?_))
  refine wl_call fr rfl rfl rfl rfl enTold (told_step (p := pT) (ls := lT) (z := zT) (congrArg Ss.gs hss) hT rfl hI2 S) ?_
  rintro _ w20 ⟨A20, rfl, hv20, S⟩
  refine ⟨_, rfl, hv20, fun a fr => ?_⟩
  (repeat (refine wl_run orcCh_ok 1 rfl fr fun a fr => ?_))
  refine wpList_nil ?_; (repeat (with_reducible refine then_n ?_))
  skip; (repeat (with_reducible refine wp_seq ?_)); refine wp_region_lit ?_
  (repeat (refine wl_run orcCh_ok 1 rfl fr fun a fr => ?_))
  have fr := fr.bool (d := 136) rfl (show ((zT == 7) != (_ == 0)) = false by rw [hTz]; simp)
  (repeat (refine wl_run orcCh_ok 1 rfl fr fun a fr => ?_))
  have fr := fr.bool (d := 141) rfl (show (pT != (_ == 1)) = false by rw [hTp]; simp)
  refine wpList_nil ?_; (repeat (with_reducible refine then_n ?_))
  skip; (repeat (with_reducible refine wp_seq ?_))
  refine cw_f fr rfl ?_
  refine wp_skip ?_
  (repeat (first | (with_reducible refine then_n ?_) | (with_reducible refine blk_n ?_)))
  skip; (repeat (with_reducible refine wp_seq ?_)); refine wp_region_lit ?_
  (repeat (refine wl_run orcCh_ok 1 rfl fr fun a fr => ?_))
  refine wpList_nil ?_; (repeat (with_reducible refine then_n ?_))
  have fr := fr.spell (d := 13) rfl (congrArg (Value.int .i64) (i64_next hlt (by omega)))
  exact ⟨j + 1, gs2, G2, C2.m, C2.x, C2.D, _, _, _, by omega, by omega, hss, hI2, hA3, hlog2.mono (by omega), fr.sub ⟨rfl, rfl, rfl, rfl, rfl, rfl, rfl, rfl, trivial⟩, S.before.tl⟩
)
  | true =>
    have fr := fr.spell (d := 17) rfl (show Value.int .i64 (if ofL L z f g = true then 1 else 0) = .int .i64 1 by rw [ho]; rfl)
    have hfL : hasI L f = true := by unfold ofL at ho; rw [Bool.and_eq_true] at ho; exact ho.1
    have hf13 : 1 ≤ f ∧ f ≤ 3 := by
      unfold hasI at hfL
      simp only [seven, List.mem_cons, List.not_mem_nil, or_false] at hL7
      rcases hL7 with rfl | rfl | rfl | rfl | rfl | rfl | rfl <;> simp at hfL <;> omega
    have hfy : f.toNat < ys.length := by omega
    have hmi : 0 ≤ miss ∧ miss ≤ 4 ∨ st ≠ 0 := by
      by_cases h0 : st = 0
      · left
        have := hA.hmiss h0
        have h9 : (sites notYes G).length ≤ 4 := by rw [← hA.one.len hL7]; exact sitesFrom_len _ 0 G.v
        omega
      · right; exact h0
    have S := S.before2
    have hyc : (ysV ys)[f.toNat]? = some (.int .i64 (ys.getD f.toNat 0)) := by
      unfold ysV
      rw [List.getElem?_map, List.getD_eq_getElem?_getD, List.getElem?_eq_getElem hfy]
      rfl
    skip; (repeat (with_reducible refine wp_seq ?_)); refine wp_region_lit ?_
    (repeat (refine wl_run orcCh_ok 1 rfl fr fun a fr => ?_))
    refine bs 94 fr rfl (fun p1 fr => ?_) (fun p1 fr => ?_)
    rotate_left
    · have hst0 : (st == 0) = false := p1
      have e1 : st1 L s f g z st = st := by unfold st1; rw [hst0]; simp
      have e2 : allC L s f g z st ys = false := by unfold allC; rw [e1, hst0]; simp
      have e3 : allSt L s f g z st ys miss = st ∧ allYs L s f g z st ys = ys ∧ allMi L s f g z st ys miss = miss := by unfold allSt allYs allMi; rw [e2, e1]; exact ⟨rfl, rfl, rfl⟩
      obtain ⟨n1, n2, n3⟩ := e3
      (repeat (refine wl_run orcCh_ok 1 rfl fr fun a fr => ?_))
      refine wpList_nil ?_; (repeat (with_reducible refine then_n ?_))
      skip; (repeat (with_reducible refine wp_seq ?_))
      refine cw_f fr rfl ?_
      refine wp_skip ?_
      (repeat (first | (with_reducible refine then_n ?_) | (with_reducible refine blk_n ?_)))
      skip; (repeat (with_reducible refine wp_seq ?_)); refine wp_region_lit ?_
      (repeat (refine wl_run orcCh_ok 1 rfl fr fun a fr => ?_))
      have fr := fr.bool (d := 105) rfl hst0
      (repeat (refine wl_run orcCh_ok 1 rfl fr fun a fr => ?_))
      refine wpList_nil ?_; (repeat (with_reducible refine then_n ?_))
      skip; (repeat (with_reducible refine wp_seq ?_))
      refine cw_f fr rfl ?_
      refine wp_skip ?_
      (repeat (first | (with_reducible refine then_n ?_) | (with_reducible refine blk_n ?_)))
      have hA3 : AllI L G2 (st) (ys) (miss) := by rw [n1, n2, n3] at hA2; exact hA2
      have S := S.behind2
      (
  obtain ⟨pT, lT, zT, hT, hTp, hTz⟩ := told_all hA3
  skip; (repeat (with_reducible refine wp_seq ?_)); refine wp_region_lit ?_
  (repeat (refine wl_run orcCh_ok 1 rfl fr fun a fr => ?_))
  refine wl_call fr rfl rfl rfl rfl enTold (told_step (p := pT) (ls := lT) (z := zT) (congrArg Ss.gs hss) hT rfl hI2 S) ?_
  rintro _ w20 ⟨A20, rfl, hv20, S⟩
  refine ⟨_, rfl, hv20, fun a fr => ?_⟩
  (repeat (refine wl_run orcCh_ok 1 rfl fr fun a fr => ?_))
  refine wpList_nil ?_; (repeat (with_reducible refine then_n ?_))
  skip; (repeat (with_reducible refine wp_seq ?_)); refine wp_region_lit ?_
  (repeat (refine wl_run orcCh_ok 1 rfl fr fun a fr => ?_))
  have fr := fr.bool (d := 136) rfl (show ((zT == 7) != (_ == 0)) = false by rw [hTz]; simp)
  (repeat (refine wl_run orcCh_ok 1 rfl fr fun a fr => ?_))
  have fr := fr.bool (d := 141) rfl (show (pT != (_ == 1)) = false by rw [hTp]; simp)
  refine wpList_nil ?_; (repeat (with_reducible refine then_n ?_))
  skip; (repeat (with_reducible refine wp_seq ?_))
  refine cw_f fr rfl ?_
  refine wp_skip ?_
  (repeat (first | (with_reducible refine then_n ?_) | (with_reducible refine blk_n ?_)))
  skip; (repeat (with_reducible refine wp_seq ?_)); refine wp_region_lit ?_
  (repeat (refine wl_run orcCh_ok 1 rfl fr fun a fr => ?_))
  refine wpList_nil ?_; (repeat (with_reducible refine then_n ?_))
  have fr := fr.spell (d := 13) rfl (congrArg (Value.int .i64) (i64_next hlt (by omega)))
  exact ⟨j + 1, gs2, G2, C2.m, C2.x, C2.D, _, _, _, by omega, by omega, hss, hI2, hA3, hlog2.mono (by omega), fr.sub ⟨rfl, rfl, rfl, rfl, rfl, rfl, rfl, rfl, trivial⟩, S.before.tl⟩
)
    have hst0 : (st == 0) = true := p1
    have hst : st = 0 := by simpa using hst0
    (repeat (first | refine wl_run orcCh_ok 1 rfl fr fun a fr => ?_ | refine wl_ldf orcCh_ok (Sat.stAt S 0 rfl rfl) fr rfl rfl rfl rfl rfl rfl rfl fun a fr => ?_))
    refine bs 98 fr rfl (fun p2 fr => ?_) (fun p2 fr => ?_)
    · have hs3 : (s == 3) = true := p2
      have e1 : st1 L s f g z st = 2 := by unfold st1; rw [hst0, hs3, ho]; rfl
      have e2 : allC L s f g z st ys = false := by unfold allC; rw [e1]; simp
      have e3 : allSt L s f g z st ys miss = 2 ∧ allYs L s f g z st ys = ys ∧ allMi L s f g z st ys miss = miss := by unfold allSt allYs allMi; rw [e2, e1]; exact ⟨rfl, rfl, rfl⟩
      obtain ⟨n1, n2, n3⟩ := e3
      refine wpList_nil ?_; (repeat (with_reducible refine then_n ?_))
      skip; (repeat (with_reducible refine wp_seq ?_))
      refine cw_t fr rfl ?_
      skip; (repeat (with_reducible refine wp_seq ?_)); refine wp_region_lit ?_
      (repeat (refine wl_run orcCh_ok 1 rfl fr fun a fr => ?_))
      refine wpList_nil ?_; (repeat (with_reducible refine then_n ?_))
      (repeat (first | (with_reducible refine then_n ?_) | (with_reducible refine blk_n ?_)))
      skip; (repeat (with_reducible refine wp_seq ?_)); refine wp_region_lit ?_
      (repeat (refine wl_run orcCh_ok 1 rfl fr fun a fr => ?_))
      refine wpList_nil ?_; (repeat (with_reducible refine then_n ?_))
      skip; (repeat (with_reducible refine wp_seq ?_))
      refine cw_f fr rfl ?_
      refine wp_skip ?_
      (repeat (first | (with_reducible refine then_n ?_) | (with_reducible refine blk_n ?_)))
      have hA3 : AllI L G2 (2) (ys) (miss) := by rw [n1, n2, n3] at hA2; exact hA2
      have S := S.behind2
      (
  obtain ⟨pT, lT, zT, hT, hTp, hTz⟩ := told_all hA3
  skip; (repeat (with_reducible refine wp_seq ?_)); refine wp_region_lit ?_
  (repeat (refine wl_run orcCh_ok 1 rfl fr fun a fr => ?_))
  refine wl_call fr rfl rfl rfl rfl enTold (told_step (p := pT) (ls := lT) (z := zT) (congrArg Ss.gs hss) hT rfl hI2 S) ?_
  rintro _ w20 ⟨A20, rfl, hv20, S⟩
  refine ⟨_, rfl, hv20, fun a fr => ?_⟩
  (repeat (refine wl_run orcCh_ok 1 rfl fr fun a fr => ?_))
  refine wpList_nil ?_; (repeat (with_reducible refine then_n ?_))
  skip; (repeat (with_reducible refine wp_seq ?_)); refine wp_region_lit ?_
  (repeat (refine wl_run orcCh_ok 1 rfl fr fun a fr => ?_))
  have fr := fr.bool (d := 136) rfl (show ((zT == 7) != (_ == 0)) = false by rw [hTz]; simp)
  (repeat (refine wl_run orcCh_ok 1 rfl fr fun a fr => ?_))
  have fr := fr.bool (d := 141) rfl (show (pT != (_ == 1)) = false by rw [hTp]; simp)
  refine wpList_nil ?_; (repeat (with_reducible refine then_n ?_))
  skip; (repeat (with_reducible refine wp_seq ?_))
  refine cw_f fr rfl ?_
  refine wp_skip ?_
  (repeat (first | (with_reducible refine then_n ?_) | (with_reducible refine blk_n ?_)))
  skip; (repeat (with_reducible refine wp_seq ?_)); refine wp_region_lit ?_
  (repeat (refine wl_run orcCh_ok 1 rfl fr fun a fr => ?_))
  refine wpList_nil ?_; (repeat (with_reducible refine then_n ?_))
  have fr := fr.spell (d := 13) rfl (congrArg (Value.int .i64) (i64_next hlt (by omega)))
  exact ⟨j + 1, gs2, G2, C2.m, C2.x, C2.D, _, _, _, by omega, by omega, hss, hI2, hA3, hlog2.mono (by omega), fr.sub ⟨rfl, rfl, rfl, rfl, rfl, rfl, rfl, rfl, trivial⟩, S.before.tl⟩
)
    have hs3 : (s == 3) = false := p2
    have e1 : st1 L s f g z st = 0 := by unfold st1; rw [hs3, hst]; simp
    refine wpList_nil ?_; (repeat (with_reducible refine then_n ?_))
    skip; (repeat (with_reducible refine wp_seq ?_))
    refine cw_f fr rfl ?_
    refine wp_skip ?_
    (repeat (first | (with_reducible refine then_n ?_) | (with_reducible refine blk_n ?_)))
    skip; (repeat (with_reducible refine wp_seq ?_)); refine wp_region_lit ?_
    (repeat (refine wl_run orcCh_ok 1 rfl fr fun a fr => ?_))
    have fr := fr.bool (d := 105) rfl hst0
    (repeat (first | refine wl_run orcCh_ok 1 rfl fr fun a fr => ?_ | refine wl_ldf orcCh_ok (Sat.stAt S 0 rfl rfl) fr rfl rfl rfl rfl rfl rfl rfl fun a fr => ?_))
    refine bs 110 fr rfl (fun p3 fr => ?_) (fun p3 fr => ?_)
    rotate_left
    · have hs2 : (s == 2) = false := p3
      have e2 : allC L s f g z st ys = false := by unfold allC; rw [hs2]; simp
      have e3 : allSt L s f g z st ys miss = 0 ∧ allYs L s f g z st ys = ys ∧ allMi L s f g z st ys miss = miss := by unfold allSt allYs allMi; rw [e2, e1]; exact ⟨rfl, rfl, rfl⟩
      obtain ⟨n1, n2, n3⟩ := e3
      subst hst
      (repeat (refine wl_run orcCh_ok 1 rfl fr fun a fr => ?_))
      refine wpList_nil ?_; (repeat (with_reducible refine then_n ?_))
      skip; (repeat (with_reducible refine wp_seq ?_))
      refine cw_f fr rfl ?_
      refine wp_skip ?_
      (repeat (first | (with_reducible refine then_n ?_) | (with_reducible refine blk_n ?_)))
      have hA3 : AllI L G2 (0) (ys) (miss) := by rw [n1, n2, n3] at hA2; exact hA2
      have S := S.behind2
      (
  obtain ⟨pT, lT, zT, hT, hTp, hTz⟩ := told_all hA3
  skip; (repeat (with_reducible refine wp_seq ?_)); refine wp_region_lit ?_
  (repeat (refine wl_run orcCh_ok 1 rfl fr fun a fr => ?_))
  refine wl_call fr rfl rfl rfl rfl enTold (told_step (p := pT) (ls := lT) (z := zT) (congrArg Ss.gs hss) hT rfl hI2 S) ?_
  rintro _ w20 ⟨A20, rfl, hv20, S⟩
  refine ⟨_, rfl, hv20, fun a fr => ?_⟩
  (repeat (refine wl_run orcCh_ok 1 rfl fr fun a fr => ?_))
  refine wpList_nil ?_; (repeat (with_reducible refine then_n ?_))
  skip; (repeat (with_reducible refine wp_seq ?_)); refine wp_region_lit ?_
  (repeat (refine wl_run orcCh_ok 1 rfl fr fun a fr => ?_))
  have fr := fr.bool (d := 136) rfl (show ((zT == 7) != (_ == 0)) = false by rw [hTz]; simp)
  (repeat (refine wl_run orcCh_ok 1 rfl fr fun a fr => ?_))
  have fr := fr.bool (d := 141) rfl (show (pT != (_ == 1)) = false by rw [hTp]; simp)
  refine wpList_nil ?_; (repeat (with_reducible refine then_n ?_))
  skip; (repeat (with_reducible refine wp_seq ?_))
  refine cw_f fr rfl ?_
  refine wp_skip ?_
  (repeat (first | (with_reducible refine then_n ?_) | (with_reducible refine blk_n ?_)))
  skip; (repeat (with_reducible refine wp_seq ?_)); refine wp_region_lit ?_
  (repeat (refine wl_run orcCh_ok 1 rfl fr fun a fr => ?_))
  refine wpList_nil ?_; (repeat (with_reducible refine then_n ?_))
  have fr := fr.spell (d := 13) rfl (congrArg (Value.int .i64) (i64_next hlt (by omega)))
  exact ⟨j + 1, gs2, G2, C2.m, C2.x, C2.D, _, _, _, by omega, by omega, hss, hI2, hA3, hlog2.mono (by omega), fr.sub ⟨rfl, rfl, rfl, rfl, rfl, rfl, rfl, rfl, trivial⟩, S.before.tl⟩
)
    have hs2 : (s == 2) = true := p3
    (repeat (first | refine wl_run orcCh_ok 1 rfl fr fun a fr => ?_ | refine wl_ldf orcCh_ok (Sat.stAt S 0 rfl rfl) fr rfl rfl rfl rfl rfl rfl rfl fun a fr => ?_))
    refine wl_ixa orcAl_ok fr rfl rfl rfl rfl rfl rfl rfl rfl ⟨by omega, by omega⟩ fun a fr => ?_
    refine wl_ldf orcAl_ok (v := .int .i64 (ys.getD f.toNat 0)) ⟨(show w10.cell? ((⟨by_, 0, none⟩ : Addr).add (f.toNat * 1)) = some (.int .i64 (ys.getD f.toNat 0)) by rw [Nat.mul_one]; exact (Sat.stAt S 1 rfl hyc).1), (Sat.stAt S 1 rfl hyc).2⟩ fr rfl rfl rfl rfl rfl rfl rfl fun a fr => ?_
    (repeat (refine wl_run orcCh_ok 1 rfl fr fun a fr => ?_))
    refine wpList_nil ?_; (repeat (with_reducible refine then_n ?_))
    refine bs 116 fr rfl (fun p4 fr => ?_) (fun p4 fr => ?_)
    rotate_left
    · have e2 : allC L s f g z st ys = false := by unfold allC; rw [show (ys.getD f.toNat 0 == 0) = false from p4]; simp
      have e3 : allSt L s f g z st ys miss = 0 ∧ allYs L s f g z st ys = ys ∧ allMi L s f g z st ys miss = miss := by unfold allSt allYs allMi; rw [e2, e1]; exact ⟨rfl, rfl, rfl⟩
      obtain ⟨n1, n2, n3⟩ := e3
      subst hst
      skip; (repeat (with_reducible refine wp_seq ?_))
      refine cw_f fr rfl ?_
      refine wp_skip ?_
      (repeat (first | (with_reducible refine then_n ?_) | (with_reducible refine blk_n ?_)))
      have hA3 : AllI L G2 (0) (ys) (miss) := by rw [n1, n2, n3] at hA2; exact hA2
      have S := S.behind2
      (
  obtain ⟨pT, lT, zT, hT, hTp, hTz⟩ := told_all hA3
  skip; (repeat (with_reducible refine wp_seq ?_)); refine wp_region_lit ?_
  (repeat (refine wl_run orcCh_ok 1 rfl fr fun a fr => ?_))
  refine wl_call fr rfl rfl rfl rfl enTold (told_step (p := pT) (ls := lT) (z := zT) (congrArg Ss.gs hss) hT rfl hI2 S) ?_
  rintro _ w20 ⟨A20, rfl, hv20, S⟩
  refine ⟨_, rfl, hv20, fun a fr => ?_⟩
  (repeat (refine wl_run orcCh_ok 1 rfl fr fun a fr => ?_))
  refine wpList_nil ?_; (repeat (with_reducible refine then_n ?_))
  skip; (repeat (with_reducible refine wp_seq ?_)); refine wp_region_lit ?_
  (repeat (refine wl_run orcCh_ok 1 rfl fr fun a fr => ?_))
  have fr := fr.bool (d := 136) rfl (show ((zT == 7) != (_ == 0)) = false by rw [hTz]; simp)
  (repeat (refine wl_run orcCh_ok 1 rfl fr fun a fr => ?_))
  have fr := fr.bool (d := 141) rfl (show (pT != (_ == 1)) = false by rw [hTp]; simp)
  refine wpList_nil ?_; (repeat (with_reducible refine then_n ?_))
  skip; (repeat (with_reducible refine wp_seq ?_))
  refine cw_f fr rfl ?_
  refine wp_skip ?_
  (repeat (first | (with_reducible refine then_n ?_) | (with_reducible refine blk_n ?_)))
  skip; (repeat (with_reducible refine wp_seq ?_)); refine wp_region_lit ?_
  (repeat (refine wl_run orcCh_ok 1 rfl fr fun a fr => ?_))
  refine wpList_nil ?_; (repeat (with_reducible refine then_n ?_))
  have fr := fr.spell (d := 13) rfl (congrArg (Value.int .i64) (i64_next hlt (by omega)))
  exact ⟨j + 1, gs2, G2, C2.m, C2.x, C2.D, _, _, _, by omega, by omega, hss, hI2, hA3, hlog2.mono (by omega), fr.sub ⟨rfl, rfl, rfl, rfl, rfl, rfl, rfl, rfl, trivial⟩, S.before.tl⟩
)
    have e2 : allC L s f g z st ys = true := by unfold allC; rw [e1, ho, hs2, show (ys.getD f.toNat 0 == 0) = true from p4]; rfl
    have n2 : allYs L s f g z st ys = ys.set f.toNat 1 := by unfold allYs; rw [e2]; rfl
    have n3 : allMi L s f g z st ys miss = miss - 1 := by unfold allMi; rw [e2]; rfl
    have n1 : allSt L s f g z st ys miss = if miss - 1 = 0 then 1 else 0 := by unfold allSt; rw [e2, e1]; rfl
    subst hst
    skip; (repeat (with_reducible refine wp_seq ?_))
    refine cw_t fr rfl ?_
    skip; (repeat (with_reducible refine wp_seq ?_)); refine wp_region_lit ?_
    (repeat (first | refine wl_run orcCh_ok 1 rfl fr fun a fr => ?_ | refine wl_ldf orcCh_ok (Sat.stAt S 0 rfl rfl) fr rfl rfl rfl rfl rfl rfl rfl fun a fr => ?_))
    refine wl_ixa orcAl_ok fr rfl rfl rfl rfl rfl rfl rfl rfl ⟨by omega, by omega⟩ fun a fr => ?_
    refine wl_stfA orcAl_ok (f.toNat * 1) fr rfl rfl rfl rfl rfl rfl rfl rfl rfl (S.frontAt 1 rfl) (by unfold ysV; rw [List.length_map, Nat.mul_one]; exact hfy) ?_
    intro w12 S
    have ev : (ysV ys).set (f.toNat * 1) (.int .i64 1) = ysV (ys.set f.toNat 1) := by unfold ysV; rw [Nat.mul_one, List.map_set]
    rw [ev] at S
    have S := S.frontAt 1 rfl
    refine wpList_nil ?_; (repeat (with_reducible refine then_n ?_))
    skip; (repeat (with_reducible refine wp_seq ?_)); refine wp_region_lit ?_
    (repeat (refine wl_run orcCh_ok 1 rfl fr fun a fr => ?_))
    refine wpList_nil ?_; (repeat (with_reducible refine then_n ?_))
    have hwm : IntKind.wrap .i64 (miss - 1) = miss - 1 := wrap_small (by omega)
    skip; (repeat (with_reducible refine wp_seq ?_)); refine wp_region_lit ?_
    (repeat (refine wl_run orcCh_ok 1 rfl fr fun a fr => ?_))
    refine wpList_nil ?_; (repeat (with_reducible refine then_n ?_))
    have fr := fr.spell (d := 11) rfl (show Value.int .i64 (IntKind.wrap .i64 (miss - 1)) = .int .i64 (miss - 1) by rw [hwm])
    refine bs 123 fr rfl (fun p5 fr => ?_) (fun p5 fr => ?_)
    · have hz0 : miss - 1 = 0 := by rw [hwm] at p5; simpa using p5
      rw [if_pos hz0] at n1
      skip; (repeat (with_reducible refine wp_seq ?_))
      refine cw_t fr rfl ?_
      skip; (repeat (with_reducible refine wp_seq ?_)); refine wp_region_lit ?_
      (repeat (refine wl_run orcCh_ok 1 rfl fr fun a fr => ?_))
      refine wpList_nil ?_; (repeat (with_reducible refine then_n ?_))
      (repeat (first | (with_reducible refine then_n ?_) | (with_reducible refine blk_n ?_)))
      have hA3 : AllI L G2 (1) (ys.set f.toNat 1) (miss - 1) := by rw [n1, n2, n3] at hA2; exact hA2
      have S := S.behind2
      (
  obtain ⟨pT, lT, zT, hT, hTp, hTz⟩ := told_all hA3
  skip; (repeat (with_reducible refine wp_seq ?_)); refine wp_region_lit ?_
  (repeat (refine wl_run orcCh_ok 1 rfl fr fun a fr => ?_))
  refine wl_call fr rfl rfl rfl rfl enTold (told_step (p := pT) (ls := lT) (z := zT) (congrArg Ss.gs hss) hT rfl hI2 S) ?_
  rintro _ w20 ⟨A20, rfl, hv20, S⟩
  refine ⟨_, rfl, hv20, fun a fr => ?_⟩
  (repeat (refine wl_run orcCh_ok 1 rfl fr fun a fr => ?_))
  refine wpList_nil ?_; (repeat (with_reducible refine then_n ?_))
  skip; (repeat (with_reducible refine wp_seq ?_)); refine wp_region_lit ?_
  (repeat (refine wl_run orcCh_ok 1 rfl fr fun a fr => ?_))
  have fr := fr.bool (d := 136) rfl (show ((zT == 7) != (_ == 0)) = false by rw [hTz]; simp)
  (repeat (refine wl_run orcCh_ok 1 rfl fr fun a fr => ?_))
  have fr := fr.bool (d := 141) rfl (show (pT != (_ == 1)) = false by rw [hTp]; simp)
  refine wpList_nil ?_; (repeat (with_reducible refine then_n ?_))
  skip; (repeat (with_reducible refine wp_seq ?_))
  refine cw_f fr rfl ?_
  refine wp_skip ?_
  (repeat (first | (with_reducible refine then_n ?_) | (with_reducible refine blk_n ?_)))
  skip; (repeat (with_reducible refine wp_seq ?_)); refine wp_region_lit ?_
  (repeat (refine wl_run orcCh_ok 1 rfl fr fun a fr => ?_))
  refine wpList_nil ?_; (repeat (with_reducible refine then_n ?_))
  have fr := fr.spell (d := 13) rfl (congrArg (Value.int .i64) (i64_next hlt (by omega)))
  exact ⟨j + 1, gs2, G2, C2.m, C2.x, C2.D, _, _, _, by omega, by omega, hss, hI2, hA3, hlog2.mono (by omega), fr.sub ⟨rfl, rfl, rfl, rfl, rfl, rfl, rfl, rfl, trivial⟩, S.before.tl⟩
)
    · have hz0 : ¬ miss - 1 = 0 := by rw [hwm] at p5; simpa using p5
      rw [if_neg hz0] at n1
      skip; (repeat (with_reducible refine wp_seq ?_))
      refine cw_f fr rfl ?_
      refine wp_skip ?_
      (repeat (first | (with_reducible refine then_n ?_) | (with_reducible refine blk_n ?_)))
      have hA3 : AllI L G2 (0) (ys.set f.toNat 1) (miss - 1) := by rw [n1, n2, n3] at hA2; exact hA2
      have S := S.behind2
      (
  obtain ⟨pT, lT, zT, hT, hTp, hTz⟩ := told_all hA3
  skip; (repeat (with_reducible refine wp_seq ?_)); refine wp_region_lit ?_
  (repeat (refine wl_run orcCh_ok 1 rfl fr fun a fr => ?_))
  refine wl_call fr rfl rfl rfl rfl enTold (told_step (p := pT) (ls := lT) (z := zT) (congrArg Ss.gs hss) hT rfl hI2 S) ?_
  rintro _ w20 ⟨A20, rfl, hv20, S⟩
  refine ⟨_, rfl, hv20, fun a fr => ?_⟩
  (repeat (refine wl_run orcCh_ok 1 rfl fr fun a fr => ?_))
  refine wpList_nil ?_; (repeat (with_reducible refine then_n ?_))
  skip; (repeat (with_reducible refine wp_seq ?_)); refine wp_region_lit ?_
  (repeat (refine wl_run orcCh_ok 1 rfl fr fun a fr => ?_))
  have fr := fr.bool (d := 136) rfl (show ((zT == 7) != (_ == 0)) = false by rw [hTz]; simp)
  (repeat (refine wl_run orcCh_ok 1 rfl fr fun a fr => ?_))
  have fr := fr.bool (d := 141) rfl (show (pT != (_ == 1)) = false by rw [hTp]; simp)
  refine wpList_nil ?_; (repeat (with_reducible refine then_n ?_))
  skip; (repeat (with_reducible refine wp_seq ?_))
  refine cw_f fr rfl ?_
  refine wp_skip ?_
  (repeat (first | (with_reducible refine then_n ?_) | (with_reducible refine blk_n ?_)))
  skip; (repeat (with_reducible refine wp_seq ?_)); refine wp_region_lit ?_
  (repeat (refine wl_run orcCh_ok 1 rfl fr fun a fr => ?_))
  refine wpList_nil ?_; (repeat (with_reducible refine then_n ?_))
  have fr := fr.spell (d := 13) rfl (congrArg (Value.int .i64) (i64_next hlt (by omega)))
  exact ⟨j + 1, gs2, G2, C2.m, C2.x, C2.D, _, _, _, by omega, by omega, hss, hI2, hA3, hlog2.mono (by omega), fr.sub ⟨rfl, rfl, rfl, rfl, rfl, rfl, rfl, rfl, trivial⟩, S.before.tl⟩
)
end Go.Proofs.YticnjkdaccacaaaGreat.Sx
namespace Go.Proofs.YticnjkdaccacaaaGreat.Pl
open Go Go.RowKit Base Sx
theorem ChiefsAll_law (A0 : Option Addr) (c0 : Nat) (l0 : List PartT) (A1 : Option Addr) (c1 : Nat) (l1 : List MsgT) (W : World) (hc0 : l0.length ≤ c0) (hm0 : c0 ≤ maxLen) (g0 : Rdr.Row partR W A0 l0) {s : List PartT → Prop} (_ : s l0) (hc1 : l1.length ≤ c1) (hm1 : c1 ≤ maxLen) (g1 : Rdr.Row msgR W A1 l1) {s5 : List OpT → Prop} {s7 : RowT → Prop} {s8 s9 : Unit → Prop} (z1 : Rdr.smB 56 (Rdr.smP Rdr.smT (Rdr.smP Rdr.smT (Rdr.smP Rdr.smT (Rdr.smP Rdr.smT (Rdr.smP s5 (Rdr.smP (Rdr.smB 24 (Rdr.smP (Rdr.smB 24 s7) s8)) s9)))))) l1) : Calls Tryz.prog 5 #[.slice A0 l0.length c0, .slice A1 l1.length c1] W fun e w' => e = .returned (.bool true) ∧ Below W.heap.size W w' := by
  obtain ⟨ps, rfl, hW, hR⟩ := parts_of g0
  rw [List.length_map] at hc0 ⊢
  refine (lawAll_call (fun w' S => hR.below S.below) hW ⟨hc0, hm0⟩ g1 ⟨hc1, hm1⟩ (fun x hx => ?_)).mono fun e w' ⟨h1, h2⟩ => ⟨h1, h2.below⟩
  have h := (z1.2 x hx).2.2.2.2.2.1
  exact ⟨Nat.le_trans h.1 (by omega), fun y hy => Nat.le_trans (h.2 y hy).1.1 (by omega)⟩
end Go.Proofs.YticnjkdaccacaaaGreat.Pl
end
section
namespace Go.Proofs.YticnjkdaccacaaaGreat.chiefsAll
open Go.ChangeShapes Go.WideShapes Go.ChangeAt Go.RowKit Base
open Go.ChangeMaps (open_string shut_string)
theorem own : ownKnob Tryz.prog.godebug = none := by kernel_rfl
theorem laidOut : laidOutB Tryz.prog = true := by kernel_rfl
set_option maxRecDepth 100000 in
theorem lifted (os : Os) (started : os.Started) (H : Type) (enc : TypeId × Value → H) :
    ReturnsInHanded {} Tryz.checked os 5 .any (Rows.chiefsAllSpec.pre6 enc Tryz.prog Tryz.f5 Rows.chiefsAllRow.domain false) (Rows.chiefsAllSpec.post enc Tryz.prog Tryz.f5 false true false false) := by
  refine returnsInHanded_of_change_sized (C := Tryz.checked) own started (by kernel_rfl) Tryz.func5
    (ChangeSpec.witness6 (enc := enc) (C := Tryz.checked) false ⟨#[], #[.slice none 0 0, .slice none 0 0], []⟩ 8 (by kernel_rfl) (by kernel_rfl) (by kernel_rfl) (by kernel_rfl)) ?_
  intro W base args ds gs before hval0 hW hcnd hsz0 _
  have hsz : (DataW.weightsEach Tryz.prog (Tryz.f5.params.toList ++ Rows.chiefsAllSpec.plain.varTypes Tryz.prog) (ds ++ gs)).all (· ≤ reachBytes) = true := hsz0
  have hval : ∀ (j : Nat) t v, Tryz.f5.params[j]? = some t → args[j]? = some v → Value.okWide Tryz.prog W .any base t v := hval0
  have hW' := hW
  obtain ⟨p, q, hA0, hV, rfl, hfz, hnd⟩ := hW
  have hA : DataW.TrodAll enc Tryz.prog W 0 (fun _ => true) true Tryz.f5.params.toList args.toList ds p := hA0
  rw [Tryz.params5] at hA hval hsz
  obtain ⟨v0, vs0, d0, ds0, p0, q0, hargs, rfl, rfl, h0, r0⟩ := trodAll_cons hA
  obtain ⟨v1, vs1, d1, ds1, p1, q1, rfl, rfl, rfl, h1, r1⟩ := trodAll_cons r0
  obtain ⟨rfl, rfl, rfl⟩ := trodAll_nil r1
  obtain rfl : args = #[v0, v1] := by cases args; simp_all
  obtain ⟨rfl, rfl⟩ := trodVars_none hV
  obtain ⟨a0, len0, cap0, rfl⟩ := okWide_slice Tryz.underlying22 (hval 0 22 v0 rfl rfl)
  have k0 := h0
  have lt0 : ∀ x ∈ p0, x.block < W.heap.size := by obtain ⟨m, hm⟩ := k0; exact DataW.trod_lt m _ _ _ hm
  obtain ⟨l0, rfl, c0, m0, g0, z0⟩ := Rdr.ofS_slice_arg (r := (Rdr.pair (Rdr.int .u8) (Rdr.pair (Rdr.sl (Rdr.pair (Rdr.int .u8) (Rdr.pair Rdr.str (Rdr.pair Rdr.str (Rdr.pair (Rdr.int .u32) Rdr.unit))))) Rdr.unit))) hsz (j := 0) (t := 22) rfl rfl (Rdr.ofB_sl Tryz.underlying22 (by kernel_rfl) (Rdr.ofS_st Tryz.underlying39 (by kernel_rfl) (Rdr.ofFS_cons rfl (Rdr.ofS (Rdr.of_int Tryz.underlying5 (by kernel_rfl))) (Rdr.ofFS_cons rfl (Rdr.ofB_sl Tryz.underlying37 (by kernel_rfl) (Rdr.ofS_st Tryz.underlying104 (by kernel_rfl) (Rdr.ofFS_cons rfl (Rdr.ofS (Rdr.of_int Tryz.underlying102 (by kernel_rfl))) (Rdr.ofFS_cons rfl (Rdr.ofS (Rdr.of_str Tryz.underlying9 (by kernel_rfl))) (Rdr.ofFS_cons rfl (Rdr.ofS (Rdr.of_str Tryz.underlying9 (by kernel_rfl))) (Rdr.ofFS_cons rfl (Rdr.ofS (Rdr.of_int Tryz.underlying31 (by kernel_rfl))) (Rdr.ofFS_nil _)))))) (B := 48) (by kernel_rfl) (by decide)) (Rdr.ofFS_nil _)))) (B := 32) (by kernel_rfl) (by decide)) h0
  obtain ⟨a1, len1, cap1, rfl⟩ := okWide_slice Tryz.underlying27 (hval 1 27 v1 rfl rfl)
  have k1 := h1
  have lt1 : ∀ x ∈ p1, x.block < W.heap.size := by obtain ⟨m, hm⟩ := k1; exact DataW.trod_lt m _ _ _ hm
  obtain ⟨l1, rfl, c1, m1, g1, z1⟩ := Rdr.ofS_slice_arg (r := (Rdr.pair (Rdr.int .u8) (Rdr.pair (Rdr.int .u8) (Rdr.pair (Rdr.int .u8) (Rdr.pair (Rdr.int .u32) (Rdr.pair (Rdr.sl (Rdr.pair (Rdr.int .u8) (Rdr.pair Rdr.str (Rdr.pair Rdr.str (Rdr.pair (Rdr.int .u32) Rdr.unit))))) (Rdr.pair (Rdr.sl (Rdr.pair (Rdr.sl (Rdr.pair Rdr.str (Rdr.pair (Rdr.int .u32) Rdr.unit))) Rdr.unit)) Rdr.unit))))))) hsz (j := 1) (t := 27) rfl rfl (Rdr.ofB_sl Tryz.underlying27 (by kernel_rfl) (Rdr.ofS_st Tryz.underlying42 (by kernel_rfl) (Rdr.ofFS_cons rfl (Rdr.ofS (Rdr.of_int Tryz.underlying36 (by kernel_rfl))) (Rdr.ofFS_cons rfl (Rdr.ofS (Rdr.of_int Tryz.underlying5 (by kernel_rfl))) (Rdr.ofFS_cons rfl (Rdr.ofS (Rdr.of_int Tryz.underlying5 (by kernel_rfl))) (Rdr.ofFS_cons rfl (Rdr.ofS (Rdr.of_int Tryz.underlying31 (by kernel_rfl))) (Rdr.ofFS_cons rfl (Rdr.ofB_sl Tryz.underlying37 (by kernel_rfl) (Rdr.ofS_st Tryz.underlying104 (by kernel_rfl) (Rdr.ofFS_cons rfl (Rdr.ofS (Rdr.of_int Tryz.underlying102 (by kernel_rfl))) (Rdr.ofFS_cons rfl (Rdr.ofS (Rdr.of_str Tryz.underlying9 (by kernel_rfl))) (Rdr.ofFS_cons rfl (Rdr.ofS (Rdr.of_str Tryz.underlying9 (by kernel_rfl))) (Rdr.ofFS_cons rfl (Rdr.ofS (Rdr.of_int Tryz.underlying31 (by kernel_rfl))) (Rdr.ofFS_nil _)))))) (B := 48) (by kernel_rfl) (by decide)) (Rdr.ofFS_cons rfl (Rdr.ofB_sl Tryz.underlying40 (by kernel_rfl) (Rdr.ofS_st Tryz.underlying157 (by kernel_rfl) (Rdr.ofFS_cons rfl (Rdr.ofB_sl Tryz.underlying155 (by kernel_rfl) (Rdr.ofS_st Tryz.underlying160 (by kernel_rfl) (Rdr.ofFS_cons rfl (Rdr.ofS (Rdr.of_str Tryz.underlying9 (by kernel_rfl))) (Rdr.ofFS_cons rfl (Rdr.ofS (Rdr.of_int Tryz.underlying31 (by kernel_rfl))) (Rdr.ofFS_nil _)))) (B := 24) (by kernel_rfl) (by decide)) (Rdr.ofFS_nil _))) (B := 24) (by kernel_rfl) (by decide)) (Rdr.ofFS_nil _)))))))) (B := 56) (by kernel_rfl) (by decide)) h1
  clear hA0 hval0 hsz0 hsz
  refine (Pl.ChiefsAll_law a0 cap0 l0 a1 cap1 l1 W c0 m0 g0 z0 c1 m1 g1 z1).mono fun e W' ⟨he, bel⟩ => ?_
  subst he
  exact ⟨_, rfl, _, _, _, [], _, [], hW', trodAll_mk1 (shut_bool Tryz.underlying4 _), (trodAll_cons_mk (Below.trod laidOut (by kernel_rfl) (of_decide_eq_true (by kernel_rfl)) k0 bel lt0) (trodAll_cons_mk (Below.trod laidOut (by kernel_rfl) (of_decide_eq_true (by kernel_rfl)) k1 bel lt1) trodAll_mk0)), rfl, bel.frame _, fun h => by cases h⟩
theorem over : Rows.chiefsAllRow.holds Tryz.pinned (OpenSpec.ofChange Rows.chiefsAllSpec) :=
  OpenClaim.holds_of_wide 5 Tryz.f5 rfl rfl rfl rfl rfl rfl rfl ⟨rfl, rfl, rfl, rfl, rfl⟩ rfl rfl rfl rfl rfl (by kernel_rfl) Tryz.func5 (by kernel_rfl)
    (of_decide_eq_true (by kernel_rfl)) (by unfold Func.isWrapper; first | (rw [if_pos (by decide +kernel)]; kernel_rfl) | (rw [if_neg (by decide +kernel)]; exact ⟨rfl, rfl⟩))
    (fun os started H enc _ => lifted os started H enc)
theorem proved : Rows.ChiefsAllSaid := over
end Go.Proofs.YticnjkdaccacaaaGreat.chiefsAll
namespace Go.Proofs.YticnjkdaccacaaaGreat
theorem chiefsAll_holds : Rows.ChiefsAllSaid := chiefsAll.proved
#print axioms chiefsAll_holds
end Go.Proofs.YticnjkdaccacaaaGreat
end
