/- Texts of this work, one behind the other. -/
import Derived.Test.YticnjkdaccacaaaGreatVChiefsOwn16
import Derived.Test.YticnjkdaccacaaaGreatRows
import Derived.WalkKit
import Derived.ProofKit
import Derived.OpenShut
import Derived.ShutString
import Derived.ChangeOld
import Derived.Below
import Derived.SizedLaws
import Derived.KernelRfl
section
namespace Go.Proofs.YticnjkdaccacaaaGreat.Sx
open Go Go.RowKit Base _root_.Go.Proofs.YticnjkdaccacaaaGreat.Own OwnV Disk
def MsgB (x : MsgT) : Prop := ResB x.2.2.2.2.2.1
set_option maxRecDepth 100000 in
set_option maxHeartbeats 16000000 in
theorem lawOwn_call {w : World} {Ap Am : Option Addr} {cp cm : Nat} {ps : List RawP} {ms : List MsgT} (hR : ∀ w', Sat w w' [] → RdParts w' Ap ps) (hW : PartsW ps) (hmp : ps.length ≤ cp ∧ cp ≤ maxLen) (hM : Rdr.Row msgR w Am ms) (hmm : ms.length ≤ cm ∧ cm ≤ maxLen) (hMB : ∀ x ∈ ms, MsgB x) :
    Calls Tryz.prog 4 #[.slice Ap ps.length cp, .slice Am ms.length cm] w fun e w' => e = .returned (.bool true) ∧ Sat w w' [] := by
  have S := Sat.start w
  refine calls_start (N := 191) [.slice Ap ps.length cp, .slice Am ms.length cm] Tryz.func4 rfl rfl rfl (vok_c (vok_sl hmp) (vok_c (vok_sl hmm) rfl)) fun a fr => ?_
  skip; (repeat (with_reducible refine wp_seq ?_)); refine wp_region_lit ?_
  (repeat (refine wl_run orcCh_ok 1 rfl fr fun a fr => ?_))
  refine wpList_nil ?_; (repeat (with_reducible refine then_n ?_))
  skip; (repeat (with_reducible refine wp_seq ?_)); refine wp_region_lit ?_
  (repeat (refine wl_run orcCh_ok 1 rfl fr fun a fr => ?_))
  refine wpList_nil ?_; (repeat (with_reducible refine then_n ?_))
  refine bs 17 fr rfl (fun q1 fr => ?_) (fun q1 fr => ?_)
  · skip; (repeat (with_reducible refine wp_seq ?_))
    refine cw_t fr rfl ?_
    skip; (repeat (with_reducible refine wp_seq ?_)); refine wp_region_lit ?_
    (repeat (refine wl_run orcCh_ok 1 rfl fr fun a fr => ?_))
    refine wl_call fr rfl rfl rfl rfl enLives (lives_call S) ?_
    rintro _ w5 ⟨rfl, S⟩
    refine ⟨_, rfl, rfl, fun a fr => ?_⟩
    (repeat (refine wl_run orcCh_ok 1 rfl fr fun a fr => ?_))
    refine wpList_nil ?_; (repeat (with_reducible refine then_n ?_))
    refine wp_ret ?_
    skip; (repeat (first | (with_reducible refine then_r ?_) | (with_reducible refine blk_r ?_) | (with_reducible refine ng_r ?_)))
    exact ret1 fr rfl rfl ⟨rfl, S⟩
  have hm100 : ms.length ≤ 100 := by have := of_decide_eq_false q1; omega
  skip; (repeat (with_reducible refine wp_seq ?_))
  refine cw_f fr rfl ?_
  refine wp_skip ?_
  (with_reducible refine then_n ?_)
  skip; (repeat (with_reducible refine wp_seq ?_)); refine wp_region_lit ?_
  (repeat (refine wl_run orcCh_ok 1 rfl fr fun a fr => ?_))
  refine wl_call fr rfl rfl rfl rfl enOpened (opened_call S) ?_
  rintro _ w1 ⟨d, b, bl, bm, bk, bw, rfl, S⟩
  refine ⟨_, rfl, rfl, fun a fr => ?_⟩
  (repeat (refine wl_run orcCh_ok 1 rfl fr fun a fr => ?_))
  refine wpList_nil ?_; (repeat (with_reducible refine then_n ?_))
  skip; (repeat (with_reducible refine wp_seq ?_)); refine wp_region_lit ?_
  (repeat (refine wl_run orcCh_ok 1 rfl fr fun a fr => ?_))
  refine wpList_nil ?_; (repeat (with_reducible refine then_n ?_))
  skip; (repeat (with_reducible refine wp_seq ?_))
  refine cw_f fr rfl ?_
  refine wp_skip ?_
  (with_reducible refine then_n ?_)
  skip; (repeat (with_reducible refine wp_seq ?_)); refine wp_region_lit ?_
  (repeat (refine wl_run orcCh_ok 1 rfl fr fun a fr => ?_))
  refine wl_call fr rfl rfl rfl rfl enBegin (begin_call (ps := ps) hR hW hmp (fun p hp => by cases hp) (Nat.zero_le _) (fun p hp => by cases hp) (LogI.start.b (Nat.zero_le _)) S) ?_
  obtain ⟨hadd1, L1⟩ := LogI.start.add (r := beginR 1) (by decide) (by omega)
  rintro _ w4 (⟨hno, rfl, S⟩ | ⟨-, h2, -⟩ | ⟨-, -, h3, -⟩ | ⟨hok, -, -, A4, c4, bn, rfl, hv4, hGI, S⟩)
  · refine ⟨_, rfl, rfl, fun a fr => ?_⟩
    (repeat (refine wl_run orcCh_ok 1 rfl fr fun a fr => ?_))
    refine wpList_nil ?_; (repeat (with_reducible refine then_n ?_))
    skip; (repeat (with_reducible refine wp_seq ?_)); refine wp_region_lit ?_
    (repeat (refine wl_run orcCh_ok 1 rfl fr fun a fr => ?_))
    refine wpList_nil ?_; (repeat (with_reducible refine then_n ?_))
    skip; (repeat (with_reducible refine wp_seq ?_))
    refine cw_t fr rfl ?_
    skip; (repeat (with_reducible refine wp_seq ?_)); refine wp_region_lit ?_
    (repeat (refine wl_run orcCh_ok 1 rfl fr fun a fr => ?_))
    refine wl_call fr rfl rfl rfl rfl enLives (lives_call (Sat.past S)) ?_
    rintro _ w5 ⟨rfl, S⟩
    refine ⟨_, rfl, rfl, fun a fr => ?_⟩
    (repeat (refine wl_run orcCh_ok 1 rfl fr fun a fr => ?_))
    refine wpList_nil ?_; (repeat (with_reducible refine then_n ?_))
    refine wp_ret ?_
    skip; (repeat (first | (with_reducible refine then_r ?_) | (with_reducible refine blk_r ?_) | (with_reducible refine ng_r ?_)))
    exact ret1 fr rfl rfl ⟨rfl, S⟩
  · exact absurd h2 (by decide)
  · have h3 : (addEI D0 0 (beginR 1) != 0) = true := h3
    rw [hadd1] at h3
    exact absurd h3 (by decide)
  refine ⟨.tuple #[.int .u32 1, .slice A4 ps.length ps.length, .int .i64 0], rfl, hv4, fun a fr => ?_⟩
  (repeat (refine wl_run orcCh_ok 1 rfl fr fun a fr => ?_))
  refine wpList_nil ?_; (repeat (with_reducible refine then_n ?_))
  obtain ⟨x1, hx1⟩ : ∃ z, z = addXI D0 0 (beginR 1) := ⟨_, rfl⟩
  obtain ⟨D1, hD1⟩ : ∃ z, z = (addDI D0 0 (beginR 1)).sync := ⟨_, rfl⟩
  have L1 := L1.sync
  rw [← hx1, ← hD1] at L1
  obtain ⟨L, hL⟩ : ∃ L, L = ps.map (·.1) := ⟨_, rfl⟩
  have hL7 : L ∈ seven := by
    have := plan_seven hok
    rw [List.map_map] at this
    rw [hL]; exact this
  have hLl : L.length = ps.length := by rw [hL, List.length_map]
  have hlen3 : ps.length ≤ 3 := by have := plan_few hok; rwa [List.length_map] at this
  rw [← hL] at S hGI
  obtain ⟨qs, hqs, S⟩ := bm_open S
  have S : Sat w w4 (bmX 1 A4 c4 qs ++ chW b bl bm 1 bk bw 0 d [(bn, newG zV 1 L)] [(1, 8)] x1 D1 []) := by rw [hx1, hD1]; exact S
  have hC1 : ss0 [(bn, newG zV 1 L)] [(1, 8)] x1 D1 = ⟨[G0 L], [(1, 8)], x1, D1⟩ := rfl
  have hI1 : ∀ p ∈ [(bn, newG zV 1 L)], GlI p.2 := fun p hp => by
    have : p = (bn, newG zV 1 L) := by simpa using hp
    rw [this]; exact hGI
  generalize [(bn, newG zV 1 L)] = gs1 at S hC1 hI1
  generalize [((1 : Int), (8 : Int))] = m1 at S hC1
  have hql : qs.length = ps.length := by have := congrArg List.length hqs; simpa using this
  skip; (repeat (with_reducible refine wp_seq ?_)); refine wp_region_lit ?_
  (repeat (refine wl_run orcCh_ok 1 rfl fr fun a fr => ?_))
  refine wpList_nil ?_; (repeat (with_reducible refine then_n ?_))
  skip; (repeat (with_reducible refine wp_seq ?_))
  refine cw_f fr rfl ?_
  refine wp_skip ?_
  (with_reducible refine then_n ?_)
  skip; (repeat (with_reducible refine wp_seq ?_)); refine wp_region_lit ?_
  (repeat (refine wl_run orcCh_ok 1 rfl fr fun a fr => ?_))
  have fr := fr.bool (d := 52) rfl (show ((ps.length : Int) != (ps.length : Int)) = false by simp)
  refine wpList_nil ?_; (repeat (with_reducible refine then_n ?_))
  skip; (repeat (with_reducible refine wp_seq ?_))
  refine cw_f fr rfl ?_
  refine wp_skip ?_
  (with_reducible refine then_n ?_)
  skip; (repeat (with_reducible refine wp_seq ?_)); refine wp_region_lit ?_
  (repeat (refine wl_run orcCh_ok 1 rfl fr fun a fr => ?_))
  refine wpList_nil ?_; (repeat (with_reducible refine then_n ?_))
  skip; (repeat (with_reducible refine wp_seq ?_))
  refine wp_block ?_
  refine cw_loop (fun r a w2 => ∃ (k : Nat), k + r = ps.length + 1 ∧ k ≤ ps.length ∧ Fr 191 a [(0, .slice Ap ps.length cp), (1, .slice Am ms.length cm), (6, .pointer (some ⟨b, 0, none⟩)), (8, .slice A4 ps.length ps.length), (10, .int .i64 (k : Int))] ∧ Sat w w2 (bmX 1 A4 c4 qs ++ chW b bl bm 1 bk bw 0 d gs1 m1 x1 D1 [])) (ps.length + 1)
    ⟨0, by omega, by omega, fr.sub ⟨rfl, rfl, rfl, rfl, rfl, trivial⟩, S⟩ ?_ ?_
  · rintro a w2 ⟨k, h, h', -⟩
    omega
  clear fr S
  rintro r1 a w5 ⟨k, hk, hk', fr, S⟩
  skip; (repeat (with_reducible refine wp_seq ?_)); refine wp_region_lit ?_
  (repeat (refine wl_run orcCh_ok 1 rfl fr fun a fr => ?_))
  refine wpList_nil ?_; (repeat (with_reducible refine then_n ?_))
  by_cases hkl : k < ps.length
  · have fr := fr.bool (d := 56) rfl (decide_eq_true (show (k : Int) < (ps.length : Int) by omega))
    skip; (repeat (with_reducible refine wp_seq ?_))
    refine cw_t fr rfl ?_
    refine wp_skip ?_
    (with_reducible refine then_n ?_)
    have hkq : k < qs.length := by omega
    obtain ⟨ad4, hA4, -, -, hqok⟩ := bm_read S hkq
    have hqc : ∀ w', Sat w w' (bmX 1 A4 c4 qs) → ∀ j u, (bmV 1 qs[k])[j]? = some u → w'.cell? (ad4.add (k * 6 + j)) = some u := fun w' S' => by
      obtain ⟨ad, h1, h2, -, -⟩ := bm_read (R := []) (by rw [List.append_nil]; exact S') hkq
      rw [hA4] at h1; injection h1 with h1; subst h1
      exact h2
    have hqo : ∀ w', Sat w w' (bmX 1 A4 c4 qs ++ chW b bl bm 1 bk bw 0 d gs1 m1 x1 D1 []) → RdOps w' qs[k].2.1 qs[k].2.2.2 := fun w' S' => (bm_read S' hkq).choose_spec.2.2.1
    obtain ⟨adp, hAp⟩ := (hR _ (Sat.lastsT (bmX 1 A4 c4 qs ++ chW b bl bm 1 bk bw 0 d gs1 m1 x1 D1 []) (by rw [List.append_nil]; exact S))).some hkl
    have hrd : ∀ w', Sat w w' (bmX 1 A4 c4 qs) → RdParts w' Ap ps := fun w' S' => hR _ (Sat.lastsT (bmX 1 A4 c4 qs) (by rw [List.append_nil]; exact S'))
    have hpc : ∀ w', Sat w w' (bmX 1 A4 c4 qs) → ∀ j u, (pcV ps[k])[j]? = some u → w'.cell? (adp.add (k * 2 + j)) = some u := fun w' S' => (hrd w' S').cell k hkl adp hAp
    have hpo : ∀ w', Sat w w' (bmX 1 A4 c4 qs ++ chW b bl bm 1 bk bw 0 d gs1 m1 x1 D1 []) → RdOps w' ps[k].2.1 ps[k].2.2.2 := fun w' S' => (hrd w' (Sat.firsts _ S')).ops _ (List.getElem_mem hkl)
    have hmem : ps[k] ∈ ps := List.getElem_mem hkl
    have hks := hW.k _ hmem
    have hmo := hW.m _ hmem
    have hwo := hW.o _ hmem
    have hqk : qs[k].1 = ps[k].1 ∧ qs[k].2.2.2 = ps[k].2.2.2 := by
      have h9 : (qs.map fun q => (q.1, q.2.2.2))[k]? = (ps.map fun p => (p.1, p.2.2.2))[k]? := by rw [hqs]
      rw [List.getElem?_map, List.getElem?_map, List.getElem?_eq_getElem hkq, List.getElem?_eq_getElem hkl] at h9
      simp only [Option.map_some, Option.some.injEq, Prod.mk.injEq] at h9
      exact h9
    generalize qs[k] = q at hqc hqo hqk hqok
    generalize ps[k] = pp at hpc hpo hks hmo hwo hqk
    obtain ⟨s, A', c', lo⟩ := pp
    obtain ⟨s', A'', c'', lo'⟩ := q
    obtain ⟨e1, e2⟩ := hqk
    have e1 : s' = s := e1
    have e2 : lo' = lo := e2
    rw [e1, e2] at hqc hqok
    have hqo : ∀ w', Sat w w' (bmX 1 A4 c4 qs ++ chW b bl bm 1 bk bw 0 d gs1 m1 x1 D1 []) → RdOps w' A'' lo := fun w' S' => by have := hqo w' S'; rw [e2] at this; exact this
    have hpo : ∀ w', Sat w w' (bmX 1 A4 c4 qs ++ chW b bl bm 1 bk bw 0 d gs1 m1 x1 D1 []) → RdOps w' A' lo := hpo
    have hks : (Lit.int .u8 s).wf = true := hks
    have hmo : lo.length ≤ c' ∧ c' ≤ maxLen := hmo
    have hwo : ∀ x ∈ lo, OpW x := hwo
    have hqm : lo.length ≤ maxLen := Nat.le_trans hmo.1 hmo.2
    have hqs2 : vok (.slice A'' lo.length lo.length) = true := vok_sl ⟨Nat.le_refl _, hqm⟩
    skip; (repeat (with_reducible refine wp_seq ?_))
    refine wp_block ?_
    skip; (repeat (with_reducible refine wp_seq ?_))
    refine wp_region_sl [.one (0, true, some 59), .one (1, true, some 60), .one (2, true, some 61), .one (3, true, some 62), .one (4, true, some 63), .one (5, true, some 64), .one (6, true, some 65), .one (7, true, some 66), .one (8, true, some 67), .one (9, true, some 68), .one (10, true, some 69), .one (11, true, some 70), .one (12, true, some 71), .one (13, true, some 72), .one (14, true, some 73), .one (15, true, some 74), .one (16, true, some 75), .one (17, true, some 76), .one (18, true, some 77), .one (19, true, some 78), .one (20, true, some 79), .one (21, true, some 80), .one (22, true, some 81), .one (23, true, some 82), .one (24, true, some 83), .one (25, true, some 84), .one (26, true, some 85), .one (27, true, some 86), .one (28, true, some 87), .one (29, true, some 88), .one (30, true, some 89), .one (31, true, some 90), .one (32, true, some 91), .one (33, true, some 92), .one (34, true, some 93), .one (35, true, some 94), .one (36, true, some 95), .one (37, true, some 96), .one (38, true, some 97), .one (39, true, some 98), .one (40, true, some 99), .one (41, true, some 100), .one (42, true, some 101), .one (43, true, some 102), .one (44, true, some 103), .one (45, true, some 104), .one (46, false, some 105), .one (47, true, some 106), .one (48, true, some 107)]
                [.one ⟨true, some 59, (Go.Op.move (Go.Operand.tmp 8)), 27, none⟩,
                .one ⟨true, some 60, (Go.Op.move (Go.Operand.tmp 10)), 3, none⟩,
                .one ⟨true, some 61, (Go.Op.indexAddr 27 (Go.Operand.tmp 59) (Go.Operand.tmp 60)), 0, none⟩,
                .one ⟨true, some 62, (Go.Op.fieldAddr 42 (Go.Operand.tmp 61) 0), 0, none⟩,
                .one ⟨true, some 63, (Go.Op.load 36 (Go.Operand.tmp 62)), 36, none⟩,
                .one ⟨true, some 64, (Go.Op.binOp Go.BinOp.neq 36 (Go.Operand.tmp 63) (Go.Operand.const (Go.Value.int Go.IntKind.u8 1)) 36), 4, none⟩,
                .one ⟨true, some 65, (Go.Op.move (Go.Operand.tmp 64)), 4, none⟩,
                .one ⟨true, some 66, (Go.Op.move (Go.Operand.tmp 8)), 27, some (65, false)⟩,
                .one ⟨true, some 67, (Go.Op.move (Go.Operand.tmp 10)), 3, some (65, false)⟩,
                .one ⟨true, some 68, (Go.Op.indexAddr 27 (Go.Operand.tmp 66) (Go.Operand.tmp 67)), 0, some (65, false)⟩,
                .one ⟨true, some 69, (Go.Op.fieldAddr 42 (Go.Operand.tmp 68) 1), 0, some (65, false)⟩,
                .one ⟨true, some 70, (Go.Op.load 5 (Go.Operand.tmp 69)), 5, some (65, false)⟩,
                .one ⟨true, some 71, (Go.Op.binOp Go.BinOp.neq 5 (Go.Operand.tmp 70) (Go.Operand.const (Go.Value.int Go.IntKind.u8 0)) 5), 4, some (65, false)⟩,
                .one ⟨true, some 72, (Go.Op.pick (Go.Operand.tmp 65) (Go.Operand.const (Go.Value.bool true)) (Go.Operand.tmp 71)), 4, none⟩,
                .one ⟨true, some 73, (Go.Op.move (Go.Operand.tmp 72)), 4, none⟩,
                .one ⟨true, some 74, (Go.Op.move (Go.Operand.tmp 8)), 27, some (73, false)⟩,
                .one ⟨true, some 75, (Go.Op.move (Go.Operand.tmp 10)), 3, some (73, false)⟩,
                .one ⟨true, some 76, (Go.Op.indexAddr 27 (Go.Operand.tmp 74) (Go.Operand.tmp 75)), 0, some (73, false)⟩,
                .one ⟨true, some 77, (Go.Op.fieldAddr 42 (Go.Operand.tmp 76) 2), 0, some (73, false)⟩,
                .one ⟨true, some 78, (Go.Op.load 5 (Go.Operand.tmp 77)), 5, some (73, false)⟩,
                .one ⟨true, some 79, (Go.Op.move (Go.Operand.tmp 0)), 22, some (73, false)⟩,
                .one ⟨true, some 80, (Go.Op.move (Go.Operand.tmp 10)), 3, some (73, false)⟩,
                .one ⟨true, some 81, (Go.Op.indexAddr 22 (Go.Operand.tmp 79) (Go.Operand.tmp 80)), 0, some (73, false)⟩,
                .one ⟨true, some 82, (Go.Op.fieldAddr 39 (Go.Operand.tmp 81) 0), 0, some (73, false)⟩,
                .one ⟨true, some 83, (Go.Op.load 5 (Go.Operand.tmp 82)), 5, some (73, false)⟩,
                .one ⟨true, some 84, (Go.Op.binOp Go.BinOp.neq 5 (Go.Operand.tmp 78) (Go.Operand.tmp 83) 5), 4, some (73, false)⟩,
                .one ⟨true, some 85, (Go.Op.pick (Go.Operand.tmp 73) (Go.Operand.const (Go.Value.bool true)) (Go.Operand.tmp 84)), 4, none⟩,
                .one ⟨true, some 86, (Go.Op.move (Go.Operand.tmp 85)), 4, none⟩,
                .one ⟨true, some 87, (Go.Op.move (Go.Operand.tmp 8)), 27, some (86, false)⟩,
                .one ⟨true, some 88, (Go.Op.move (Go.Operand.tmp 10)), 3, some (86, false)⟩,
                .one ⟨true, some 89, (Go.Op.indexAddr 27 (Go.Operand.tmp 87) (Go.Operand.tmp 88)), 0, some (86, false)⟩,
                .one ⟨true, some 90, (Go.Op.fieldAddr 42 (Go.Operand.tmp 89) 3), 0, some (86, false)⟩,
                .one ⟨true, some 91, (Go.Op.load 31 (Go.Operand.tmp 90)), 31, some (86, false)⟩,
                .one ⟨true, some 92, (Go.Op.binOp Go.BinOp.neq 31 (Go.Operand.tmp 91) (Go.Operand.const (Go.Value.int Go.IntKind.u32 1)) 31), 4, some (86, false)⟩,
                .one ⟨true, some 93, (Go.Op.pick (Go.Operand.tmp 86) (Go.Operand.const (Go.Value.bool true)) (Go.Operand.tmp 92)), 4, none⟩,
                .one ⟨true, some 94, (Go.Op.move (Go.Operand.tmp 93)), 4, none⟩,
                .one ⟨true, some 95, (Go.Op.move (Go.Operand.tmp 8)), 27, some (94, false)⟩,
                .one ⟨true, some 96, (Go.Op.move (Go.Operand.tmp 10)), 3, some (94, false)⟩,
                .one ⟨true, some 97, (Go.Op.indexAddr 27 (Go.Operand.tmp 95) (Go.Operand.tmp 96)), 0, some (94, false)⟩,
                .one ⟨true, some 98, (Go.Op.fieldAddr 42 (Go.Operand.tmp 97) 4), 0, some (94, false)⟩,
                .one ⟨true, some 99, (Go.Op.load 37 (Go.Operand.tmp 98)), 37, some (94, false)⟩,
                .one ⟨true, some 100, (Go.Op.move (Go.Operand.tmp 0)), 22, some (94, false)⟩,
                .one ⟨true, some 101, (Go.Op.move (Go.Operand.tmp 10)), 3, some (94, false)⟩,
                .one ⟨true, some 102, (Go.Op.indexAddr 22 (Go.Operand.tmp 100) (Go.Operand.tmp 101)), 0, some (94, false)⟩,
                .one ⟨true, some 103, (Go.Op.fieldAddr 39 (Go.Operand.tmp 102) 1), 0, some (94, false)⟩,
                .one ⟨true, some 104, (Go.Op.load 37 (Go.Operand.tmp 103)), 37, some (94, false)⟩,
                .one ⟨false, some 105, (Go.Op.call { callee := (Go.Callee.value (Go.Operand.func 15)), args := #[(Go.Operand.tmp 99), (Go.Operand.tmp 104)], argTypes := #[37, 37] }), 4, some (94, false)⟩,
                .one ⟨true, some 106, (Go.Op.unOp Go.UnOp.not 4 (Go.Operand.tmp 105)), 4, some (94, false)⟩,
                .one ⟨true, some 107, (Go.Op.pick (Go.Operand.tmp 94) (Go.Operand.const (Go.Value.bool true)) (Go.Operand.tmp 106)), 4, none⟩]
                (fun v => Sat w v (bmX 1 A4 c4 qs)) rfl (by kernel_rfl) (by kernel_rfl) ?_ ?_
    · exact Sat.firsts _ S.drew
    have S := S.drew
    have hS : Sat w _ (bmX 1 A4 c4 qs) := Sat.firsts _ S
    (repeat (refine sl_run orcCh_ok 1 rfl fr fun a fr => ?_))
    refine sl_ixe orcCh_ok hA4 fr rfl rfl rfl rfl rfl rfl rfl rfl rfl ⟨by omega, by omega⟩ fun a fr => ?_
    (repeat (refine sl_run orcCh_ok 1 rfl fr fun a fr => ?_))
    refine sl_ldf orcCh_ok (v := .int .u8 1) (fun w' S' => ⟨(show w'.cell? ((ad4.add (k * 6)).add 0) = some (.int .u8 1) by rw [add_add]; exact hqc w' S' 0 _ rfl), rfl⟩) fr rfl rfl rfl rfl rfl rfl rfl rfl hS fun a fr => ?_
    (repeat (refine sl_run orcCh_ok 1 rfl fr fun a fr => ?_))
    refine sl_ixe orcCh_ok hA4 fr rfl rfl rfl rfl rfl rfl rfl rfl rfl ⟨by omega, by omega⟩ fun a fr => ?_
    (repeat (refine sl_run orcCh_ok 1 rfl fr fun a fr => ?_))
    refine sl_ldf orcCh_ok (v := .int .u8 0) (fun w' S' => ⟨(show w'.cell? ((ad4.add (k * 6)).add 1) = some (.int .u8 0) by rw [add_add]; exact hqc w' S' 1 _ rfl), rfl⟩) fr rfl rfl rfl rfl rfl rfl rfl rfl hS fun a fr => ?_
    (repeat (refine sl_run orcCh_ok 1 rfl fr fun a fr => ?_))
    refine sl_ixe orcCh_ok hA4 fr rfl rfl rfl rfl rfl rfl rfl rfl rfl ⟨by omega, by omega⟩ fun a fr => ?_
    (repeat (refine sl_run orcCh_ok 1 rfl fr fun a fr => ?_))
    refine sl_ldf orcCh_ok (v := .int .u8 s) (fun w' S' => ⟨(show w'.cell? ((ad4.add (k * 6)).add 2) = some (.int .u8 s) by rw [add_add]; exact hqc w' S' 2 _ rfl), hks⟩) fr rfl rfl rfl rfl rfl rfl rfl rfl hS fun a fr => ?_
    (repeat (refine sl_run orcCh_ok 1 rfl fr fun a fr => ?_))
    refine sl_ixe orcCh_ok hAp fr rfl rfl rfl rfl rfl rfl rfl rfl rfl ⟨by omega, by omega⟩ fun a fr => ?_
    (repeat (refine sl_run orcCh_ok 1 rfl fr fun a fr => ?_))
    refine sl_ldf orcCh_ok (v := .int .u8 s) (fun w' S' => ⟨(show w'.cell? ((adp.add (k * 2)).add 0) = some (.int .u8 s) by rw [add_add]; exact hpc w' S' 0 _ rfl), hks⟩) fr rfl rfl rfl rfl rfl rfl rfl rfl hS fun a fr => ?_
    (repeat (refine sl_run orcCh_ok 1 rfl fr fun a fr => ?_))
    have fr := fr.bool (d := 86) rfl (show (s != s) = false by simp)
    (repeat (refine sl_run orcCh_ok 1 rfl fr fun a fr => ?_))
    refine sl_ixe orcCh_ok hA4 fr rfl rfl rfl rfl rfl rfl rfl rfl rfl ⟨by omega, by omega⟩ fun a fr => ?_
    (repeat (refine sl_run orcCh_ok 1 rfl fr fun a fr => ?_))
    refine sl_ldf orcCh_ok (v := .int .u32 1) (fun w' S' => ⟨(show w'.cell? ((ad4.add (k * 6)).add 3) = some (.int .u32 1) by rw [add_add]; exact hqc w' S' 3 _ rfl), rfl⟩) fr rfl rfl rfl rfl rfl rfl rfl rfl hS fun a fr => ?_
    (repeat (refine sl_run orcCh_ok 1 rfl fr fun a fr => ?_))
    refine sl_ixe orcCh_ok hA4 fr rfl rfl rfl rfl rfl rfl rfl rfl rfl ⟨by omega, by omega⟩ fun a fr => ?_
    (repeat (refine sl_run orcCh_ok 1 rfl fr fun a fr => ?_))
    refine sl_ldf orcCh_ok (v := .slice A'' lo.length lo.length) (fun w' S' => ⟨(show w'.cell? ((ad4.add (k * 6)).add 4) = some (.slice A'' lo.length lo.length) by rw [add_add]; exact hqc w' S' 4 _ rfl), hqs2⟩) fr rfl rfl rfl rfl rfl rfl rfl rfl hS fun a fr => ?_
    (repeat (refine sl_run orcCh_ok 1 rfl fr fun a fr => ?_))
    refine sl_ixe orcCh_ok hAp fr rfl rfl rfl rfl rfl rfl rfl rfl rfl ⟨by omega, by omega⟩ fun a fr => ?_
    (repeat (refine sl_run orcCh_ok 1 rfl fr fun a fr => ?_))
    refine sl_ldf orcCh_ok (v := .slice A' lo.length c') (fun w' S' => ⟨(show w'.cell? ((adp.add (k * 2)).add 1) = some (.slice A' lo.length c') by rw [add_add]; exact hpc w' S' 1 _ rfl), vok_sl hmo⟩) fr rfl rfl rfl rfl rfl rfl rfl rfl hS fun a fr => ?_
    (repeat (refine sl_run orcCh_ok 1 rfl fr fun a fr => ?_))
    refine sl_call fr rfl rfl rfl rfl rfl enSameOps (sameops_call hqo hpo hwo ⟨Nat.le_refl _, hqm⟩ hmo S) ?_
    rintro _ w6 ⟨rfl, S⟩
    refine ⟨_, rfl, rfl, Sat.firsts _ S, fun a fr => ?_⟩
    (repeat (refine sl_run orcCh_ok 1 rfl fr fun a fr => ?_))
    refine sl_end ?_
    (repeat (with_reducible refine then_n ?_))
    skip; (repeat (with_reducible refine wp_seq ?_))
    refine cw_f fr rfl ?_
    refine wp_skip ?_
    (repeat (first | (with_reducible refine then_n ?_) | (with_reducible refine blk_n ?_)))
    skip; (repeat (with_reducible refine wp_seq ?_)); refine wp_region_lit ?_
    (repeat (refine wl_run orcCh_ok 1 rfl fr fun a fr => ?_))
    refine wpList_nil ?_; (repeat (with_reducible refine then_n ?_))
    have fr := fr.spell (d := 10) rfl (congrArg (Value.int .i64) (i64_next hkl (by omega)))
    exact ⟨k + 1, by omega, by omega, fr.sub ⟨rfl, rfl, rfl, rfl, rfl, trivial⟩, S⟩
  have fr := fr.bool (d := 56) rfl (decide_eq_false (show ¬ (k : Int) < (ps.length : Int) by omega))
  have S := Sat.lastsT (bmX 1 A4 c4 qs) S
  skip; (repeat (with_reducible refine wp_seq ?_))
  refine cw_f fr rfl ?_
  refine wp_exit ?_
  skip; (repeat (first | (with_reducible refine then_e ?_) | (with_reducible refine ng_e ?_) | (with_reducible refine blk_e (by decide) ?_))); (with_reducible refine blk_y ?_); (repeat (with_reducible refine then_n ?_))
  skip; (repeat (with_reducible refine wp_seq ?_)); refine wp_region_lit ?_
  (repeat (refine wl_run orcCh_ok 1 rfl fr fun a fr => ?_))
  refine wpList_nil ?_; (repeat (with_reducible refine then_n ?_))
  have hO1 := One.start hL7
  skip; (repeat (with_reducible refine wp_seq ?_))
  refine wp_block ?_
  refine cw_loop (fun r a w2 => ∃ (j : Nat) (gs : Gs) (G : Gl RsT) (m : List (Int × Int)) (x : Int) (D : Dk), j + r = ms.length + 1 ∧ j ≤ ms.length ∧ ss0 gs m x D = ⟨[G], m, x, D⟩ ∧ (∀ p ∈ gs, GlI p.2) ∧ One L G ∧ LogI D x (1 + j) ∧ Fr 191 a [(0, .slice Ap ps.length cp), (1, .slice Am ms.length cm), (6, .pointer (some ⟨b, 0, none⟩)), (11, .int .i64 (j : Int))] ∧ Sat w w2 (chW b bl bm 1 bk bw 0 d gs m x D [])) (ms.length + 1)
    ⟨0, gs1, G0 L, m1, x1, D1, by omega, by omega, hC1, hI1, hO1, L1, fr.sub ⟨rfl, rfl, rfl, rfl, trivial⟩, S⟩ ?_ ?_
  · rintro a w2 ⟨j, _, _, _, _, _, h, h', -⟩
    omega
  clear fr S hC1 hI1 hO1
  rintro r2 a w6 ⟨j, gs, G, m, x, D, hj, hj', hC, hI, hO, hlog, fr, S⟩
  skip; (repeat (with_reducible refine wp_seq ?_)); refine wp_region_lit ?_
  (repeat (refine wl_run orcCh_ok 1 rfl fr fun a fr => ?_))
  refine wpList_nil ?_; (repeat (with_reducible refine then_n ?_))
  by_cases hlt : j < ms.length
  rotate_left
  · have fr := fr.bool (d := 111) rfl (decide_eq_false (show ¬ (j : Int) < (ms.length : Int) by omega))
    skip; (repeat (with_reducible refine wp_seq ?_))
    refine cw_f fr rfl ?_
    refine wp_exit ?_
    skip; (repeat (first | (with_reducible refine then_e ?_) | (with_reducible refine ng_e ?_) | (with_reducible refine blk_e (by decide) ?_))); (with_reducible refine blk_y ?_); (repeat (with_reducible refine then_n ?_))
    skip; (repeat (with_reducible refine wp_seq ?_)); refine wp_region_lit ?_
    (repeat (refine wl_run orcCh_ok 1 rfl fr fun a fr => ?_))
    refine wl_call fr rfl rfl rfl rfl enLives (lives_call (Sat.past S)) ?_
    rintro _ w7 ⟨rfl, S⟩
    refine ⟨_, rfl, rfl, fun a fr => ?_⟩
    (repeat (refine wl_run orcCh_ok 1 rfl fr fun a fr => ?_))
    refine wpList_nil ?_; (repeat (with_reducible refine then_n ?_))
    refine wp_ret ?_
    skip; (repeat (first | (with_reducible refine then_r ?_) | (with_reducible refine blk_r ?_) | (with_reducible refine ng_r ?_)))
    exact ret1 fr rfl rfl ⟨rfl, S⟩
  have fr := fr.bool (d := 111) rfl (decide_eq_true (show (j : Int) < (ms.length : Int) by omega))
  skip; (repeat (with_reducible refine wp_seq ?_))
  refine cw_t fr rfl ?_
  refine wp_skip ?_
  (with_reducible refine then_n ?_)
  obtain ⟨ad, Ao, no, co, Ar, cr, rs, hAm, hcell, hmg, hrd, hrw, hrl⟩ := msg_at hM hlt
  have hmB := hMB _ (List.getElem_mem hlt)
  unfold MsgB at hmB
  rw [← hrl] at hmB
  generalize ms[j].1 = s at hcell hmg
  generalize ms[j].2.1 = f at hcell hmg
  generalize ms[j].2.2.1 = t at hcell hmg
  generalize ms[j].2.2.2.1 = g at hcell hmg
  skip; (repeat (with_reducible refine wp_seq ?_))
  refine wp_block ?_
  skip; (repeat (with_reducible refine wp_seq ?_)); refine wp_region_lit ?_
  (repeat (refine wl_run orcCh_ok 1 rfl fr fun a fr => ?_))
  refine wl_ldrs (cs := mgV s f t g Ao no co Ar rs.length cr) orcCh_ok (i := (j : Int)) (z := 6) ⟨ad, hAm, fun j' u hu => RR.cellAt (Sat.past S).below (hcell j' u hu)⟩ (hmg.ok Ao Ar) fr rfl rfl rfl rfl rfl rfl rfl rfl rfl rfl rfl rfl rfl rfl rfl rfl ⟨by omega, by omega⟩ fun a fr => ?_
  have hrlen : rs.length * 24 ≤ 140737488355328 := by
    have := hmB.1
    rwa [show (rawL rs).length = rs.length by simp [rawL]] at this
  have hrows : ∀ r ∈ rs, r.2.2.length * 24 ≤ 140737488355328 := fun r hr => hmB.2 (r.2.2, ()) (List.mem_map.2 ⟨r, hr, rfl⟩)
  refine wl_call fr rfl rfl rfl rfl enCame (came_call (Ao := Ao) (Ar := Ar) hmg (fun w' S' => hrd.below (Sat.below S')) hrw hrlen hrows hmB hI (hlog.b (by omega)) S) ?_
  rintro _ w9 ⟨A9, c9, gs2, rfl, hv9, hg2, hI2, -, S⟩
  rw [hC] at hv9 hg2 S
  have hlog2 := log_came hL7 hO (m := m) hlog (by omega) s f t g (rawL rs)
  have hout := own_out hL7 hO (m := m) (x := x) (D := D) s f t g (rawL rs)
  obtain ⟨G2, hG2, hO2⟩ := one_came hO (m := m) (x := x) (D := D) s f t g (rawL rs)
  refine ⟨_, by rw [hC], hv9, fun a fr => ?_⟩
  obtain ⟨C2, hC2⟩ : ∃ C2, C2 = cameS ⟨[G], m, x, D⟩ s f t g (rawL rs) := ⟨_, rfl⟩
  obtain ⟨z, hz⟩ : ∃ z, z = (cameO ⟨[G], m, x, D⟩ s f t g (rawL rs)).2 := ⟨_, rfl⟩
  obtain ⟨os, hos⟩ : ∃ os, os = (cameO ⟨[G], m, x, D⟩ s f t g (rawL rs)).1 := ⟨_, rfl⟩
  rw [← hz, ← hos] at fr
  rw [← hos] at hout
  rw [← hC2] at hg2 hG2 hlog2 S
  rw [← hos] at S
  have S := Sat.behind S
  have hss : ss0 gs2 C2.m C2.x C2.D = ⟨[G2], C2.m, C2.x, C2.D⟩ := by unfold ss0; rw [hg2, hG2]
  (repeat (refine wl_run orcCh_ok 1 rfl fr fun a fr => ?_))
  refine wpList_nil ?_; (repeat (with_reducible refine then_n ?_))
  skip; (repeat (with_reducible refine wp_seq ?_)); refine wp_region_lit ?_
  (repeat (refine wl_run orcCh_ok 1 rfl fr fun a fr => ?_))
  refine wpList_nil ?_; (repeat (with_reducible refine then_n ?_))
  have hol : os.length ≤ maxLen := Nat.le_trans (Sat.rvAt (Sat.past S) 0 rfl).2.1.1 (Sat.rvAt (Sat.past S) 0 rfl).2.1.2
  skip; (repeat (with_reducible refine wp_seq ?_))
  refine wp_block ?_
  refine cw_loop (fun r a w2 => ∃ (k : Nat), k + r = os.length + 1 ∧ k ≤ os.length ∧ Fr 191 a [(0, .slice Ap ps.length cp), (1, .slice Am ms.length cm), (6, .pointer (some ⟨b, 0, none⟩)), (8, .slice A9 os.length os.length), (11, .int .i64 (j : Int)), (12, .int .i64 (k : Int))] ∧ Sat w w2 (chW b bl bm 1 bk bw 0 d gs2 C2.m C2.x C2.D [pmA A9 c9 os])) (os.length + 1)
    ⟨0, by omega, by omega, fr.sub ⟨rfl, rfl, rfl, rfl, rfl, rfl, trivial⟩, S⟩ ?_ ?_
  · rintro a w2 ⟨k, h, h', -⟩
    omega
  clear fr S
  rintro r3 a w10 ⟨k, hk, hk', fr, S⟩
  skip; (repeat (with_reducible refine wp_seq ?_)); refine wp_region_lit ?_
  (repeat (refine wl_run orcCh_ok 1 rfl fr fun a fr => ?_))
  refine wpList_nil ?_; (repeat (with_reducible refine then_n ?_))
  by_cases hkl : k < os.length
  rotate_left
  · have fr := fr.bool (d := 126) rfl (decide_eq_false (show ¬ (k : Int) < (os.length : Int) by omega))
    skip; (repeat (with_reducible refine wp_seq ?_))
    refine cw_f fr rfl ?_
    refine wp_exit ?_
    skip; (repeat (first | (with_reducible refine then_e ?_) | (with_reducible refine ng_e ?_) | (with_reducible refine blk_e (by decide) ?_))); (with_reducible refine blk_y ?_); (repeat (with_reducible refine then_n ?_))
    (repeat (first | (with_reducible refine then_n ?_) | (with_reducible refine blk_n ?_)))
    skip; (repeat (with_reducible refine wp_seq ?_)); refine wp_region_lit ?_
    (repeat (refine wl_run orcCh_ok 1 rfl fr fun a fr => ?_))
    refine wpList_nil ?_; (repeat (with_reducible refine then_n ?_))
    have fr := fr.spell (d := 11) rfl (congrArg (Value.int .i64) (i64_next hlt (by omega)))
    exact ⟨j + 1, gs2, G2, C2.m, C2.x, C2.D, by omega, by omega, hss, hI2, hO2, hlog2.mono (by omega), fr.sub ⟨rfl, rfl, rfl, rfl, trivial⟩, S.before.tl⟩
  have fr := fr.bool (d := 126) rfl (decide_eq_true (show (k : Int) < (os.length : Int) by omega))
  skip; (repeat (with_reducible refine wp_seq ?_))
  refine cw_t fr rfl ?_
  refine wp_skip ?_
  (with_reducible refine then_n ?_)
  obtain ⟨ho1, ho2⟩ := hout _ (List.getElem_mem hkl)
  obtain ⟨ad9, hA9, -⟩ := pm_cell (i := k) (Sat.past S) 0 rfl hkl
  have hoc : ∀ w', Sat w w' [pmA A9 c9 os] → ∀ j u, (pmV os[k])[j]? = some u → w'.cell? (ad9.add (k * 6 + j)) = some u := fun w' S' => by
    obtain ⟨ad, h1, h2⟩ := pm_cell (i := k) S' 0 rfl hkl
    rw [hA9] at h1; injection h1 with h1; subst h1
    exact h2
  have hok3 : (pmV os[k]).all vok1 = true := by
    rw [List.all_eq_true]
    intro v hv
    exact (Sat.rvAt (Sat.past S) 0 rfl).2.2.2.1 v (List.mem_flatMap.2 ⟨os[k], List.getElem_mem hkl, hv⟩)
  generalize os[k] = o at ho1 ho2 hoc hok3
  obtain ⟨os1, o1, og⟩ := o
  have ho1 : 1 ≤ o1 ∧ o1 ≤ 3 := ho1
  have ho2 : og ≠ 1 ∨ hasI L o1 = true := ho2
  simp only [pmV, List.all_cons, List.all_nil, Bool.and_true, Bool.and_eq_true] at hok3
  obtain ⟨-, -, hko, hkg, -, -⟩ := hok3
  skip; (repeat (with_reducible refine wp_seq ?_))
  refine wp_block ?_
  skip; (repeat (with_reducible refine wp_seq ?_)); refine wp_region_lit ?_
  (repeat (refine wl_run orcCh_ok 1 rfl fr fun a fr => ?_))
  refine wl_ixe orcCh_ok hA9 fr rfl rfl rfl rfl rfl rfl rfl rfl ⟨by omega, by omega⟩ fun a fr => ?_
  (repeat (refine wl_run orcCh_ok 1 rfl fr fun a fr => ?_))
  refine wl_ldf orcCh_ok (v := .int .u32 og) ⟨(show World.cell? _ ((ad9.add (k * 6)).add 3) = some (.int .u32 og) by rw [add_add]; exact hoc _ (Sat.past S) 3 _ rfl), hkg⟩ fr rfl rfl rfl rfl rfl rfl rfl fun a fr => ?_
  (repeat (refine wl_run orcCh_ok 1 rfl fr fun a fr => ?_))
  refine wpList_nil ?_; (repeat (with_reducible refine then_n ?_))
  skip; (repeat (with_reducible refine wp_seq ?_)); refine wp_region_lit ?_
  (repeat (refine wl_run orcCh_ok 1 rfl fr fun a fr => ?_))
  refine wpList_nil ?_; (repeat (with_reducible refine then_n ?_))
  skip; (repeat (with_reducible refine wp_seq ?_))
  refine wp_block ?_
  refine cw_loop (fun r a w2 => ∃ (y : Nat), y + r = ps.length + 1 ∧ y ≤ ps.length ∧ Fr 191 a [(0, .slice Ap ps.length cp), (1, .slice Am ms.length cm), (6, .pointer (some ⟨b, 0, none⟩)), (8, .slice A9 os.length os.length), (11, .int .i64 (j : Int)), (12, .int .i64 (k : Int)), (13, .bool (og != 1 || hasI (L.take y) o1)), (14, .int .i64 (y : Int))] ∧ Sat w w2 (chW b bl bm 1 bk bw 0 d gs2 C2.m C2.x C2.D [pmA A9 c9 os])) (ps.length + 1)
    ⟨0, by omega, by omega, ?_, S⟩ ?_ ?_
  · have fr := fr.spell (d := 13) rfl (show Value.bool (og != 1) = .bool (og != 1 || hasI (L.take 0) o1) by show _ = Value.bool (og != 1 || false); rw [Bool.or_false])
    exact fr.sub ⟨rfl, rfl, rfl, rfl, rfl, rfl, rfl, rfl, trivial⟩
  · rintro a w2 ⟨y, h, h', -⟩
    omega
  clear fr S
  rintro r4 a w11 ⟨y, hy, hy', fr, S⟩
  skip; (repeat (with_reducible refine wp_seq ?_)); refine wp_region_lit ?_
  (repeat (refine wl_run orcCh_ok 1 rfl fr fun a fr => ?_))
  refine wpList_nil ?_; (repeat (with_reducible refine then_n ?_))
  by_cases hyl : y < ps.length
  · have fr := fr.bool (d := 138) rfl (decide_eq_true (show (y : Int) < (ps.length : Int) by omega))
    skip; (repeat (with_reducible refine wp_seq ?_))
    refine cw_t fr rfl ?_
    refine wp_skip ?_
    (with_reducible refine then_n ?_)
    obtain ⟨adp, hAp⟩ := (hR _ (Sat.lastsT [_] (Sat.past S))).some hyl
    have hcellp : ∀ w', Sat w w' [pmA A9 c9 os] → ∀ j u, (pcV ps[y])[j]? = some u → w'.cell? (adp.add (y * 2 + j)) = some u := fun w' S' => (hR _ (Sat.lastsT [_] S')).cell y hyl adp hAp
    have hyL : y < L.length := by omega
    have hLy : L[y] = ps[y].1 := by
      have : L[y]? = some ps[y].1 := by rw [hL, List.getElem?_map, List.getElem?_eq_getElem hyl]; rfl
      rw [List.getElem?_eq_getElem hyL] at this
      injection this
    have hks := hW.k _ (List.getElem_mem hyl)
    have htk := hasI_take hyL o1
    rw [hLy] at htk
    obtain ⟨sk, hsk⟩ : ∃ s, s = ps[y].1 := ⟨_, rfl⟩
    rw [← hsk] at hks htk
    have hcom : (o1 == sk) = (sk == o1) := BEq.comm
    rw [hcom] at htk
    skip; (repeat (with_reducible refine wp_seq ?_))
    refine wp_block ?_
    refine cw_any (fun a w2 => FrD [] 191 a [(0, .slice Ap ps.length cp), (1, .slice Am ms.length cm), (6, .pointer (some ⟨b, 0, none⟩)), (8, .slice A9 os.length os.length), (11, .int .i64 (j : Int)), (12, .int .i64 (k : Int)), (13, .bool (og != 1 || hasI (L.take (y + 1)) o1)), (14, .int .i64 (y : Int))] ∧ Sat w w2 (chW b bl bm 1 bk bw 0 d gs2 C2.m C2.x C2.D [pmA A9 c9 os])) ?_ ?_
    · refine wp_region_sl [.one (0, true, some 141), .one (1, true, some 142), .one (2, true, some 143), .one (3, true, some 144), .one (4, true, some 145), .one (5, true, some 146), .one (6, true, some 147), .one (7, true, some 148), .one (8, true, some 149), .one (9, true, some 150), .one (10, true, some 151), .one (11, true, some 152), .one (12, true, some 153), .one (13, true, some 154), .one (14, true, some 13)]
                [.one ⟨true, some 141, (Go.Op.move (Go.Operand.tmp 13)), 4, none⟩,
                .one ⟨true, some 142, (Go.Op.move (Go.Operand.tmp 141)), 4, none⟩,
                .one ⟨true, some 143, (Go.Op.move (Go.Operand.tmp 0)), 22, some (142, false)⟩,
                .one ⟨true, some 144, (Go.Op.move (Go.Operand.tmp 14)), 3, some (142, false)⟩,
                .one ⟨true, some 145, (Go.Op.indexAddr 22 (Go.Operand.tmp 143) (Go.Operand.tmp 144)), 0, some (142, false)⟩,
                .one ⟨true, some 146, (Go.Op.fieldAddr 39 (Go.Operand.tmp 145) 0), 0, some (142, false)⟩,
                .one ⟨true, some 147, (Go.Op.load 5 (Go.Operand.tmp 146)), 5, some (142, false)⟩,
                .one ⟨true, some 148, (Go.Op.move (Go.Operand.tmp 8)), 27, some (142, false)⟩,
                .one ⟨true, some 149, (Go.Op.move (Go.Operand.tmp 12)), 3, some (142, false)⟩,
                .one ⟨true, some 150, (Go.Op.indexAddr 27 (Go.Operand.tmp 148) (Go.Operand.tmp 149)), 0, some (142, false)⟩,
                .one ⟨true, some 151, (Go.Op.fieldAddr 42 (Go.Operand.tmp 150) 2), 0, some (142, false)⟩,
                .one ⟨true, some 152, (Go.Op.load 5 (Go.Operand.tmp 151)), 5, some (142, false)⟩,
                .one ⟨true, some 153, (Go.Op.binOp Go.BinOp.eql 5 (Go.Operand.tmp 147) (Go.Operand.tmp 152) 5), 4, some (142, false)⟩,
                .one ⟨true, some 154, (Go.Op.pick (Go.Operand.tmp 142) (Go.Operand.const (Go.Value.bool true)) (Go.Operand.tmp 153)), 4, none⟩,
                .one ⟨true, some 13, (Go.Op.assign (Go.Operand.tmp 154)), 4, none⟩]
                (fun v => Sat w v [pmA A9 c9 os]) rfl (by kernel_rfl) (by kernel_rfl) ?_ ?_
      · exact Sat.past S.drew
      have S := S.drew
      have hS : Sat w _ [pmA A9 c9 os] := Sat.past S
      (repeat (refine sl_run orcCh_ok 1 rfl fr fun a fr => ?_))
      refine bs 142 fr rfl (fun p1 fr => ?_) (fun p1 fr => ?_)
      · (repeat (refine sl_run orcCh_ok 1 rfl fr fun a fr => ?_))
        refine sl_end ⟨rfl, ?_⟩
        have e : (og != 1 || hasI (L.take (y + 1)) o1) = true := by
          rw [htk, ← Bool.or_assoc, p1]; rfl
        rw [e]
        exact ⟨fr.sub ⟨rfl, rfl, rfl, rfl, rfl, rfl, rfl, rfl, trivial⟩, S⟩
      · (repeat (refine sl_run orcCh_ok 1 rfl fr fun a fr => ?_))
        refine sl_ixe orcCh_ok hAp fr rfl rfl rfl rfl rfl rfl rfl rfl rfl ⟨by omega, by omega⟩ fun a fr => ?_
        (repeat (refine sl_run orcCh_ok 1 rfl fr fun a fr => ?_))
        refine sl_ldf orcCh_ok (v := .int .u8 sk) (fun w' S' => ⟨(show w'.cell? ((adp.add (y * 2)).add 0) = some (.int .u8 sk) by rw [add_add]; exact hcellp w' S' 0 _ (by rw [hsk]; rfl)), hks⟩) fr rfl rfl rfl rfl rfl rfl rfl rfl hS fun a fr => ?_
        (repeat (refine sl_run orcCh_ok 1 rfl fr fun a fr => ?_))
        refine sl_ixe orcCh_ok hA9 fr rfl rfl rfl rfl rfl rfl rfl rfl rfl ⟨by omega, by omega⟩ fun a fr => ?_
        (repeat (refine sl_run orcCh_ok 1 rfl fr fun a fr => ?_))
        refine sl_ldf orcCh_ok (v := .int .u8 o1) (fun w' S' => ⟨(show w'.cell? ((ad9.add (k * 6)).add 2) = some (.int .u8 o1) by rw [add_add]; exact hoc w' S' 2 _ rfl), hko⟩) fr rfl rfl rfl rfl rfl rfl rfl rfl hS fun a fr => ?_
        (repeat (refine sl_run orcCh_ok 1 rfl fr fun a fr => ?_))
        refine sl_end ⟨rfl, ?_⟩
        have e : (og != 1 || hasI (L.take (y + 1)) o1) = (sk == o1) := by
          rw [htk, ← Bool.or_assoc, p1]; rfl
        rw [e]
        exact ⟨fr.sub ⟨rfl, rfl, rfl, rfl, rfl, rfl, rfl, rfl, trivial⟩, S⟩
    clear fr S
    rintro a w12 ⟨fr, S⟩
    (repeat (first | (with_reducible refine then_n ?_) | (with_reducible refine blk_n ?_)))
    skip; (repeat (with_reducible refine wp_seq ?_)); refine wp_region_lit ?_
    (repeat (refine wl_run orcCh_ok 1 rfl fr fun a fr => ?_))
    refine wpList_nil ?_; (repeat (with_reducible refine then_n ?_))
    have fr := fr.spell (d := 14) rfl (congrArg (Value.int .i64) (i64_next hyl (by omega)))
    exact ⟨y + 1, by omega, by omega, fr.sub ⟨rfl, rfl, rfl, rfl, rfl, rfl, rfl, rfl, trivial⟩, S⟩
  have fr := fr.bool (d := 138) rfl (decide_eq_false (show ¬ (y : Int) < (ps.length : Int) by omega))
  obtain rfl : y = ps.length := by omega
  have fr := fr.bool (d := 13) rfl (show (og != 1 || hasI (L.take ps.length) o1) = true by
    rw [← hLl, List.take_length]
    rcases ho2 with h | h
    · simp [h]
    · rw [h]; simp)
  skip; (repeat (with_reducible refine wp_seq ?_))
  refine cw_f fr rfl ?_
  refine wp_exit ?_
  skip; (repeat (first | (with_reducible refine then_e ?_) | (with_reducible refine ng_e ?_) | (with_reducible refine blk_e (by decide) ?_))); (with_reducible refine blk_y ?_); (repeat (with_reducible refine then_n ?_))
  skip; (repeat (with_reducible refine wp_seq ?_)); refine wp_region_lit ?_
  (repeat (refine wl_run orcCh_ok 1 rfl fr fun a fr => ?_))
  refine wl_ixe orcCh_ok hA9 fr rfl rfl rfl rfl rfl rfl rfl rfl ⟨by omega, by omega⟩ fun a fr => ?_
  (repeat (refine wl_run orcCh_ok 1 rfl fr fun a fr => ?_))
  refine wl_ldf orcCh_ok (v := .int .u8 0) ⟨(show World.cell? _ ((ad9.add (k * 6)).add 1) = some (.int .u8 0) by rw [add_add]; exact hoc _ (Sat.past S) 1 _ rfl), rfl⟩ fr rfl rfl rfl rfl rfl rfl rfl fun a fr => ?_
  (repeat (refine wl_run orcCh_ok 1 rfl fr fun a fr => ?_))
  refine wl_ixe orcCh_ok hA9 fr rfl rfl rfl rfl rfl rfl rfl rfl ⟨by omega, by omega⟩ fun a fr => ?_
  (repeat (refine wl_run orcCh_ok 1 rfl fr fun a fr => ?_))
  refine wl_ldf orcCh_ok (v := .int .u8 o1) ⟨(show World.cell? _ ((ad9.add (k * 6)).add 2) = some (.int .u8 o1) by rw [add_add]; exact hoc _ (Sat.past S) 2 _ rfl), hko⟩ fr rfl rfl rfl rfl rfl rfl rfl fun a fr => ?_
  (repeat (refine wl_run orcCh_ok 1 rfl fr fun a fr => ?_))
  have fr := fr.bool (d := 173) rfl (decide_eq_false (show ¬ o1 < 1 by omega))
  (repeat (refine wl_run orcCh_ok 1 rfl fr fun a fr => ?_))
  refine wl_ixe orcCh_ok hA9 fr rfl rfl rfl rfl rfl rfl rfl rfl ⟨by omega, by omega⟩ fun a fr => ?_
  (repeat (refine wl_run orcCh_ok 1 rfl fr fun a fr => ?_))
  refine wl_ldf orcCh_ok (v := .int .u8 o1) ⟨(show World.cell? _ ((ad9.add (k * 6)).add 2) = some (.int .u8 o1) by rw [add_add]; exact hoc _ (Sat.past S) 2 _ rfl), hko⟩ fr rfl rfl rfl rfl rfl rfl rfl fun a fr => ?_
  (repeat (refine wl_run orcCh_ok 1 rfl fr fun a fr => ?_))
  have fr := fr.bool (d := 181) rfl (decide_eq_false (show ¬ o1 > 3 by omega))
  (repeat (refine wl_run orcCh_ok 1 rfl fr fun a fr => ?_))
  refine wl_ixe orcCh_ok hA9 fr rfl rfl rfl rfl rfl rfl rfl rfl ⟨by omega, by omega⟩ fun a fr => ?_
  (repeat (refine wl_run orcCh_ok 1 rfl fr fun a fr => ?_))
  refine wl_ldf orcCh_ok (v := .slice none 0 0) ⟨(show World.cell? _ ((ad9.add (k * 6)).add 4) = some (.slice none 0 0) by rw [add_add]; exact hoc _ (Sat.past S) 4 _ rfl), rfl⟩ fr rfl rfl rfl rfl rfl rfl rfl fun a fr => ?_
  (repeat (refine wl_run orcCh_ok 1 rfl fr fun a fr => ?_))
  refine wpList_nil ?_; (repeat (with_reducible refine then_n ?_))
  skip; (repeat (with_reducible refine wp_seq ?_))
  refine cw_f fr rfl ?_
  refine wp_skip ?_
  (repeat (first | (with_reducible refine then_n ?_) | (with_reducible refine blk_n ?_)))
  skip; (repeat (with_reducible refine wp_seq ?_)); refine wp_region_lit ?_
  (repeat (refine wl_run orcCh_ok 1 rfl fr fun a fr => ?_))
  refine wpList_nil ?_; (repeat (with_reducible refine then_n ?_))
  have fr := fr.spell (d := 12) rfl (congrArg (Value.int .i64) (i64_next hkl (by unfold maxLen at hol; omega)))
  exact ⟨k + 1, by omega, by omega, fr.sub ⟨rfl, rfl, rfl, rfl, rfl, rfl, trivial⟩, S⟩
end Go.Proofs.YticnjkdaccacaaaGreat.Sx
namespace Go.Proofs.YticnjkdaccacaaaGreat.Pl
open Go Go.RowKit Base Sx
theorem ChiefsOwn_law (A0 : Option Addr) (c0 : Nat) (l0 : List PartT) (A1 : Option Addr) (c1 : Nat) (l1 : List MsgT) (W : World) (hc0 : l0.length ≤ c0) (hm0 : c0 ≤ maxLen) (g0 : Rdr.Row partR W A0 l0) {s : List PartT → Prop} (_ : s l0) (hc1 : l1.length ≤ c1) (hm1 : c1 ≤ maxLen) (g1 : Rdr.Row msgR W A1 l1) {s5 : List OpT → Prop} {s7 : RowT → Prop} {s8 s9 : Unit → Prop} (z1 : Rdr.smB 56 (Rdr.smP Rdr.smT (Rdr.smP Rdr.smT (Rdr.smP Rdr.smT (Rdr.smP Rdr.smT (Rdr.smP s5 (Rdr.smP (Rdr.smB 24 (Rdr.smP (Rdr.smB 24 s7) s8)) s9)))))) l1) : Calls Tryz.prog 4 #[.slice A0 l0.length c0, .slice A1 l1.length c1] W fun e w' => e = .returned (.bool true) ∧ Below W.heap.size W w' := by
  obtain ⟨ps, rfl, hW, hR⟩ := parts_of g0
  rw [List.length_map] at hc0 ⊢
  refine (lawOwn_call (fun w' S => hR.below S.below) hW ⟨hc0, hm0⟩ g1 ⟨hc1, hm1⟩ (fun x hx => ?_)).mono fun e w' ⟨h1, h2⟩ => ⟨h1, h2.below⟩
  have h := (z1.2 x hx).2.2.2.2.2.1
  exact ⟨Nat.le_trans h.1 (by omega), fun y hy => Nat.le_trans (h.2 y hy).1.1 (by omega)⟩
end Go.Proofs.YticnjkdaccacaaaGreat.Pl
end
section
namespace Go.Proofs.YticnjkdaccacaaaGreat.chiefsOwn
open Go.ChangeShapes Go.WideShapes Go.ChangeAt Go.RowKit Base
open Go.ChangeMaps (open_string shut_string)
theorem own : ownKnob Tryz.prog.godebug = none := by kernel_rfl
theorem laidOut : laidOutB Tryz.prog = true := by kernel_rfl
set_option maxRecDepth 100000 in
theorem lifted (os : Os) (started : os.Started) (H : Type) (enc : TypeId × Value → H) :
    ReturnsInHanded {} Tryz.checked os 4 .any (Rows.chiefsOwnSpec.pre6 enc Tryz.prog Tryz.f4 Rows.chiefsOwnRow.domain false) (Rows.chiefsOwnSpec.post enc Tryz.prog Tryz.f4 false true false false) := by
  refine returnsInHanded_of_change_sized (C := Tryz.checked) own started (by kernel_rfl) Tryz.func4
    (ChangeSpec.witness6 (enc := enc) (C := Tryz.checked) false ⟨#[], #[.slice none 0 0, .slice none 0 0], []⟩ 8 (by kernel_rfl) (by kernel_rfl) (by kernel_rfl) (by kernel_rfl)) ?_
  intro W base args ds gs before hval0 hW hcnd hsz0 _
  have hsz : (DataW.weightsEach Tryz.prog (Tryz.f4.params.toList ++ Rows.chiefsOwnSpec.plain.varTypes Tryz.prog) (ds ++ gs)).all (· ≤ reachBytes) = true := hsz0
  have hval : ∀ (j : Nat) t v, Tryz.f4.params[j]? = some t → args[j]? = some v → Value.okWide Tryz.prog W .any base t v := hval0
  have hW' := hW
  obtain ⟨p, q, hA0, hV, rfl, hfz, hnd⟩ := hW
  have hA : DataW.TrodAll enc Tryz.prog W 0 (fun _ => true) true Tryz.f4.params.toList args.toList ds p := hA0
  rw [Tryz.params4] at hA hval hsz
  obtain ⟨v0, vs0, d0, ds0, p0, q0, hargs, rfl, rfl, h0, r0⟩ := trodAll_cons hA
  obtain ⟨v1, vs1, d1, ds1, p1, q1, rfl, rfl, rfl, h1, r1⟩ := trodAll_cons r0
  obtain ⟨rfl, rfl, rfl⟩ := trodAll_nil r1
  obtain rfl : args = #[v0, v1] := by cases args; simp_all
  obtain ⟨rfl, rfl⟩ := trodVars_none hV
  obtain ⟨a0, len0, cap0, rfl⟩ := okWide_slice Tryz.underlying22 (hval 0 22 v0 rfl rfl)
  have k0 := h0
  have lt0 : ∀ x ∈ p0, x.block < W.heap.size := by obtain ⟨m, hm⟩ := k0; exact DataW.trod_lt m _ _ _ hm
  obtain ⟨l0, rfl, c0, m0, g0, z0⟩ := Rdr.ofS_slice_arg (r := (Rdr.pair (Rdr.int .u8) (Rdr.pair (Rdr.sl (Rdr.pair (Rdr.int .u8) (Rdr.pair Rdr.str (Rdr.pair Rdr.str (Rdr.pair (Rdr.int .u32) Rdr.unit))))) Rdr.unit))) hsz (j := 0) (t := 22) rfl rfl (Rdr.ofB_sl Tryz.underlying22 (by kernel_rfl) (Rdr.ofS_st Tryz.underlying39 (by kernel_rfl) (Rdr.ofFS_cons rfl (Rdr.ofS (Rdr.of_int Tryz.underlying5 (by kernel_rfl))) (Rdr.ofFS_cons rfl (Rdr.ofB_sl Tryz.underlying37 (by kernel_rfl) (Rdr.ofS_st Tryz.underlying104 (by kernel_rfl) (Rdr.ofFS_cons rfl (Rdr.ofS (Rdr.of_int Tryz.underlying102 (by kernel_rfl))) (Rdr.ofFS_cons rfl (Rdr.ofS (Rdr.of_str Tryz.underlying9 (by kernel_rfl))) (Rdr.ofFS_cons rfl (Rdr.ofS (Rdr.of_str Tryz.underlying9 (by kernel_rfl))) (Rdr.ofFS_cons rfl (Rdr.ofS (Rdr.of_int Tryz.underlying31 (by kernel_rfl))) (Rdr.ofFS_nil _)))))) (B := 48) (by kernel_rfl) (by decide)) (Rdr.ofFS_nil _)))) (B := 32) (by kernel_rfl) (by decide)) h0
  obtain ⟨a1, len1, cap1, rfl⟩ := okWide_slice Tryz.underlying27 (hval 1 27 v1 rfl rfl)
  have k1 := h1
  have lt1 : ∀ x ∈ p1, x.block < W.heap.size := by obtain ⟨m, hm⟩ := k1; exact DataW.trod_lt m _ _ _ hm
  obtain ⟨l1, rfl, c1, m1, g1, z1⟩ := Rdr.ofS_slice_arg (r := (Rdr.pair (Rdr.int .u8) (Rdr.pair (Rdr.int .u8) (Rdr.pair (Rdr.int .u8) (Rdr.pair (Rdr.int .u32) (Rdr.pair (Rdr.sl (Rdr.pair (Rdr.int .u8) (Rdr.pair Rdr.str (Rdr.pair Rdr.str (Rdr.pair (Rdr.int .u32) Rdr.unit))))) (Rdr.pair (Rdr.sl (Rdr.pair (Rdr.sl (Rdr.pair Rdr.str (Rdr.pair (Rdr.int .u32) Rdr.unit))) Rdr.unit)) Rdr.unit))))))) hsz (j := 1) (t := 27) rfl rfl (Rdr.ofB_sl Tryz.underlying27 (by kernel_rfl) (Rdr.ofS_st Tryz.underlying42 (by kernel_rfl) (Rdr.ofFS_cons rfl (Rdr.ofS (Rdr.of_int Tryz.underlying36 (by kernel_rfl))) (Rdr.ofFS_cons rfl (Rdr.ofS (Rdr.of_int Tryz.underlying5 (by kernel_rfl))) (Rdr.ofFS_cons rfl (Rdr.ofS (Rdr.of_int Tryz.underlying5 (by kernel_rfl))) (Rdr.ofFS_cons rfl (Rdr.ofS (Rdr.of_int Tryz.underlying31 (by kernel_rfl))) (Rdr.ofFS_cons rfl (Rdr.ofB_sl Tryz.underlying37 (by kernel_rfl) (Rdr.ofS_st Tryz.underlying104 (by kernel_rfl) (Rdr.ofFS_cons rfl (Rdr.ofS (Rdr.of_int Tryz.underlying102 (by kernel_rfl))) (Rdr.ofFS_cons rfl (Rdr.ofS (Rdr.of_str Tryz.underlying9 (by kernel_rfl))) (Rdr.ofFS_cons rfl (Rdr.ofS (Rdr.of_str Tryz.underlying9 (by kernel_rfl))) (Rdr.ofFS_cons rfl (Rdr.ofS (Rdr.of_int Tryz.underlying31 (by kernel_rfl))) (Rdr.ofFS_nil _)))))) (B := 48) (by kernel_rfl) (by decide)) (Rdr.ofFS_cons rfl (Rdr.ofB_sl Tryz.underlying40 (by kernel_rfl) (Rdr.ofS_st Tryz.underlying157 (by kernel_rfl) (Rdr.ofFS_cons rfl (Rdr.ofB_sl Tryz.underlying155 (by kernel_rfl) (Rdr.ofS_st Tryz.underlying160 (by kernel_rfl) (Rdr.ofFS_cons rfl (Rdr.ofS (Rdr.of_str Tryz.underlying9 (by kernel_rfl))) (Rdr.ofFS_cons rfl (Rdr.ofS (Rdr.of_int Tryz.underlying31 (by kernel_rfl))) (Rdr.ofFS_nil _)))) (B := 24) (by kernel_rfl) (by decide)) (Rdr.ofFS_nil _))) (B := 24) (by kernel_rfl) (by decide)) (Rdr.ofFS_nil _)))))))) (B := 56) (by kernel_rfl) (by decide)) h1
  clear hA0 hval0 hsz0 hsz
  refine (Pl.ChiefsOwn_law a0 cap0 l0 a1 cap1 l1 W c0 m0 g0 z0 c1 m1 g1 z1).mono fun e W' ⟨he, bel⟩ => ?_
  subst he
  exact ⟨_, rfl, _, _, _, [], _, [], hW', trodAll_mk1 (shut_bool Tryz.underlying4 _), (trodAll_cons_mk (Below.trod laidOut (by kernel_rfl) (of_decide_eq_true (by kernel_rfl)) k0 bel lt0) (trodAll_cons_mk (Below.trod laidOut (by kernel_rfl) (of_decide_eq_true (by kernel_rfl)) k1 bel lt1) trodAll_mk0)), rfl, bel.frame _, fun h => by cases h⟩
theorem over : Rows.chiefsOwnRow.holds Tryz.pinned (OpenSpec.ofChange Rows.chiefsOwnSpec) :=
  OpenClaim.holds_of_wide 4 Tryz.f4 rfl rfl rfl rfl rfl rfl rfl ⟨rfl, rfl, rfl, rfl, rfl⟩ rfl rfl rfl rfl rfl (by kernel_rfl) Tryz.func4 (by kernel_rfl)
    (of_decide_eq_true (by kernel_rfl)) (by unfold Func.isWrapper; first | (rw [if_pos (by decide +kernel)]; kernel_rfl) | (rw [if_neg (by decide +kernel)]; exact ⟨rfl, rfl⟩))
    (fun os started H enc _ => lifted os started H enc)
theorem proved : Rows.ChiefsOwnSaid := over
end Go.Proofs.YticnjkdaccacaaaGreat.chiefsOwn
namespace Go.Proofs.YticnjkdaccacaaaGreat
theorem chiefsOwn_holds : Rows.ChiefsOwnSaid := chiefsOwn.proved
#print axioms chiefsOwn_holds
end Go.Proofs.YticnjkdaccacaaaGreat
end
