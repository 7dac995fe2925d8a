/- Texts of this work, one behind the other. -/
import Derived.Test.YticnjkdaccacaaaGreatDoorVWallsPlay6
import Derived.Test.YticnjkdaccacaaaGreatDoorProg
import Derived.IntWalk
section
namespace Go.Proofs.YticnjkdaccacaaaGreatDoor.Sx
open Go Go.RowKit Base _root_.Go.Proofs.YticnjkdaccacaaaGreatDoor.Own OwnV
def orcByte : Orc := ⟨[(3, .int .i64), (4, .bool), (5, .int .u8), (45, .slice 5), (246, .struct #[Go.Field.mk "l" 45 0 false "" "concordat/concordatlaw01" 0, Go.Field.mk "long" 45 1 false "" "concordat/concordatlaw01" 24, Go.Field.mk "n" 3 2 false "" "concordat/concordatlaw01" 48]), (31, .slice 246), (153, .pointer 44), (44, .struct #[Go.Field.mk "n" 3 0 false "" "concordat/concordatlaw01" 0, Go.Field.mk "bytes" 31 1 false "" "concordat/concordatlaw01" 8, Go.Field.mk "ids" 32 2 false "" "concordat/concordatlaw01" 32, Go.Field.mk "ints" 33 3 false "" "concordat/concordatlaw01" 56, Go.Field.mk "texts" 34 4 false "" "concordat/concordatlaw01" 80, Go.Field.mk "rows" 35 5 false "" "concordat/concordatlaw01" 104, Go.Field.mk "ops" 36 6 false "" "concordat/concordatlaw01" 128, Go.Field.mk "spans" 37 7 false "" "concordat/concordatlaw01" 152, Go.Field.mk "changes" 38 8 false "" "concordat/concordatlaw01" 176, Go.Field.mk "results" 39 9 false "" "concordat/concordatlaw01" 200, Go.Field.mk "msgs" 40 10 false "" "concordat/concordatlaw01" 224, Go.Field.mk "parts" 41 11 false "" "concordat/concordatlaw01" 248, Go.Field.mk "deeds" 42 12 false "" "concordat/concordatlaw01" 272])],
  [(3, 1), (4, 1), (5, 1), (45, 1), (246, 3), (31, 1), (153, 1), (44, 13)]⟩
theorem orcByte_ok : orcByte.Ok Tryz.prog := ⟨⟨Tryz.underlying3, Tryz.underlying4, Tryz.underlying5, Tryz.underlying45, Tryz.underlying246, Tryz.underlying31, Tryz.underlying153, Tryz.underlying44, trivial⟩, ⟨by kernel_rfl, by kernel_rfl, by kernel_rfl, by kernel_rfl, by kernel_rfl, by kernel_rfl, by kernel_rfl, by kernel_rfl, trivial⟩⟩
theorem rowByte : RowTy Tryz.prog 45 5 .u8 := ⟨Tryz.underlying45, 1, by decide, by kernel_rfl⟩
theorem zeroByte : ∀ W, (zeroValue 246).run Tryz.prog W = .ok (.agg ([.slice none 0 0, .slice none 0 0, .int .i64 0] : List Value).toArray) W := fun _ => by kernel_rfl
def mkByte (n : Int) : Int := IntKind.wrap .u8 (IntKind.wrap .i64 (1 + n.tmod 250))
theorem mkByte_wf (n : Int) : (Lit.int .u8 (mkByte n)).wf = true := wf_wrap _ _
theorem enMkByte : Enters Tryz.prog 185 := fun _ _ => by kernel_rfl
theorem enIsByte : Enters Tryz.prog 197 := fun _ _ => by kernel_rfl
theorem enKeepByte : Enters Tryz.prog 81 := fun _ _ => by kernel_rfl
section
variable {w w0 : World} {R : List Asn}
theorem markByte_call {n : Int} (hv : (Lit.int .i64 n).wf = true) (S : Sat w0 w R) : Calls Tryz.prog 185 #[.int .i64 n] w fun e w' => e = .returned (.int .u8 (mkByte n)) ∧ Sat w0 w' R := by
  refine calls_start (N := 7) [.int .i64 n] Tryz.func185 rfl rfl rfl (vok_c hv rfl) fun a fr => ?_
  skip; (repeat (with_reducible refine wp_seq ?_)); refine wp_region_lit ?_
  refine wl_run orcByte_ok 1 rfl fr fun a fr => ?_
  refine wpList_nil ?_; (repeat (with_reducible refine then_n ?_))
  skip; (repeat (with_reducible refine wp_seq ?_)); refine wp_region_lit ?_
  refine wl_run orcByte_ok 5 rfl fr fun a fr => ?_
  refine wpList_nil ?_; (repeat (with_reducible refine then_n ?_))
  refine wp_ret ?_
  refine ret1 fr rfl rfl ?_
  exact ⟨rfl, S⟩
theorem isByte_call {x n : Int} (hx : (Lit.int .u8 x).wf = true) (hv : (Lit.int .i64 n).wf = true) (S : Sat w0 w R) : Calls Tryz.prog 197 #[.int .u8 x, .int .i64 n] w fun e w' => e = .returned (.bool (x == mkByte n)) ∧ Sat w0 w' R := by
  refine calls_start (N := 11) [.int .u8 x, .int .i64 n] Tryz.func197 rfl rfl rfl (vok_c hx (vok_c hv rfl)) fun a fr => ?_
  skip; (repeat (with_reducible refine wp_seq ?_)); refine wp_region_lit ?_
  refine wl_run orcByte_ok 1 rfl fr fun a fr => ?_
  refine wpList_nil ?_; (repeat (with_reducible refine then_n ?_))
  skip; (repeat (with_reducible refine wp_seq ?_)); refine wp_region_lit ?_
  refine wl_run orcByte_ok 7 rfl fr fun a fr => ?_
  refine wpList_nil ?_; (repeat (with_reducible refine then_n ?_))
  refine wp_ret ?_
  refine ret1 fr rfl rfl ?_
  exact ⟨rfl, S⟩
variable {b c : Nat} {A : Option Addr} {cells : List Value} {hs : List Hd}
set_option maxRecDepth 100000 in
set_option maxHeartbeats 1000000 in
theorem keepByte_call {r : Rw} {n : Int} (hm : r.2.2.length ≤ r.2.1 ∧ r.2.1 ≤ maxLen) (hn : n + 1 ≤ 1000000000 ∧ 0 ≤ n) (h0 : cells[0]? = some (.int .i64 n)) (hj : cells[1]? = some (.slice A hs.length c)) (hh : hs.length ≤ 1000000000)
    (S : Sat w0 w (ownA .u8 5 r.1 r.2.1 r.2.2 :: stA 44 b cells :: rvA 246 3 A c hs.length (hdsV hs) :: R)) :
    Calls Tryz.prog 81 #[.pointer (some ⟨b, 0, none⟩), rwV r] w fun e w' => ∃ A' c', e = .returned (.tuple #[]) ∧ Sat w0 w' (ownA .u8 5 r.1 r.2.1 r.2.2 :: stA 44 b ((cells.set 0 (.int .i64 (n + 1))).set 1 (.slice A' (hs.length + 1) c')) :: rvA 246 3 A' c' (hs.length + 1) (hdsV (hs ++ [⟨r.1, r.2.1, r.2.2, none, n + 1⟩])) :: R) := by
  refine calls_start (N := 26) [.pointer (some ⟨b, 0, none⟩), rwV r] Tryz.func81 rfl rfl rfl (vok_c rfl (vok_c (vok_sl (A := r.1) hm) rfl)) fun a fr => ?_
  skip; (repeat (with_reducible refine wp_seq ?_)); refine wp_region_lit ?_
  refine wl_run orcByte_ok 3 rfl fr fun a fr => ?_
  refine wl_ldf orcByte_ok (Sat.stAt S 1 rfl h0) fr rfl rfl rfl rfl rfl rfl rfl fun a fr => ?_
  refine wl_run orcByte_ok 3 rfl fr fun a fr => ?_
  have hw : IntKind.wrap .i64 (n + 1) = n + 1 := IntWalk.i64_in _ ⟨by omega, by omega⟩
  have fr := fr.spell (d := 8) rfl (congrArg (Value.int .i64) hw)
  have S := S.frontAt 1 rfl
  have hl0 : 0 < cells.length := (List.getElem?_eq_some_iff.1 h0).1
  have hlj : 1 < cells.length := (List.getElem?_eq_some_iff.1 hj).1
  refine wl_stf (j := 0) orcByte_ok fr rfl rfl rfl rfl rfl rfl rfl rfl S (Nat.ble_eq_true_of_le hl0) ?_
  intro w2 S
  refine wpList_nil ?_; (repeat (with_reducible refine then_n ?_))
  have q0 : (cells.set 0 (.int .i64 (n + 1)))[0]? = some (.int .i64 (n + 1)) := by simp [hl0]
  have qj : (cells.set 0 (.int .i64 (n + 1)))[1]? = some (.slice A hs.length c) := by rw [List.getElem?_set_ne (by decide)]; exact hj
  have S : Sat w0 w2 (stA 44 b (cells.set 0 (.int .i64 (n + 1))) :: rvA 246 3 A c hs.length (hdsV hs) :: ownA .u8 5 r.1 r.2.1 r.2.2 :: R) := (S.frontAt 2 rfl).frontAt 1 rfl
  skip; (repeat (with_reducible refine wp_seq ?_))
  refine wp_region_ph [] [13, 14, 15] [] [] [.one (0, true, some 11), .one (1, true, some 12), .one (2, true, some 13), .one (3, true, some 14), .one (4, true, some 15), .one (5, true, some 16), .one (6, true, some 17), .one (7, true, some 18), .one (8, true, some 19), .one (9, true, some 20), .one (10, true, some 21), .one (11, false, some 22), .one (12, false, some 23)] [.one ⟨true, some 11, (Go.Op.move (Go.Operand.tmp 0)), 153, none⟩,
    .one ⟨true, some 12, (Go.Op.move (Go.Operand.tmp 0)), 153, none⟩,
    .one ⟨true, some 13, (Go.Op.nilCheck (Go.Operand.tmp 12)), 0, none⟩,
    .one ⟨true, some 14, (Go.Op.fieldAddr 44 (Go.Operand.tmp 13) 1), 0, none⟩,
    .one ⟨true, some 15, (Go.Op.load 31 (Go.Operand.tmp 14)), 31, none⟩,
    .one ⟨true, some 16, (Go.Op.move (Go.Operand.tmp 1)), 45, none⟩,
    .one ⟨true, some 17, (Go.Op.move (Go.Operand.tmp 0)), 153, none⟩,
    .one ⟨true, some 18, (Go.Op.nilCheck (Go.Operand.tmp 17)), 0, none⟩,
    .one ⟨true, some 19, (Go.Op.fieldAddr 44 (Go.Operand.tmp 18) 0), 0, none⟩,
    .one ⟨true, some 20, (Go.Op.load 3 (Go.Operand.tmp 19)), 3, none⟩,
    .one ⟨true, some 21, (Go.Op.build 246 #[(0, (Go.Operand.tmp 16)), (2, (Go.Operand.tmp 20))]), 246, none⟩,
    .one ⟨false, some 22, (Go.Op.buildSlice 31 1 #[(0, (Go.Operand.tmp 21))]), 31, none⟩,
    .one ⟨false, some 23, (Go.Op.call { callee := (Go.Callee.builtin Go.Builtin.append), args := #[(Go.Operand.tmp 15), (Go.Operand.tmp 22)], argTypes := #[31, 31] }), 31, none⟩] [.one (13, true, some 24), .one (14, true, some 25), .one (15, false, none)] [.one ⟨true, some 24, (Go.Op.nilCheck (Go.Operand.tmp 11)), 0, none⟩,
    .one ⟨true, some 25, (Go.Op.fieldAddr 44 (Go.Operand.tmp 24) 1), 0, none⟩,
    .one ⟨false, none, (Go.Op.store 31 (Go.Operand.tmp 25) (Go.Operand.tmp 23)), 0, none⟩] (fun v => Sat w0 v [stA 44 b (cells.set 0 (.int .i64 (n + 1)))]) (fun v => Sat w0 v []) rfl (by kernel_rfl) (by kernel_rfl) (by kernel_rfl) (by kernel_rfl) (S.drew.firsts [_]) (fun _ S => S.firsts []) ?_
  have S := S.drew
  refine sl_next ?_
  refine sl_run orcByte_ok 4 rfl fr fun a fr => ?_
  refine sl_ldf orcByte_ok (fun _ S => Sat.stAt S 0 rfl qj) fr rfl rfl rfl rfl rfl rfl rfl rfl (S.firsts [_]) fun a fr => ?_
  refine sl_run orcByte_ok 4 rfl fr fun a fr => ?_
  refine sl_ldf orcByte_ok (fun _ S => Sat.stAt S 0 rfl q0) fr rfl rfl rfl rfl rfl rfl rfl rfl (S.firsts [_]) fun a fr => ?_
  have hwf : (Lit.int .i64 (n + 1)).wf = true := fr.int (d := 20) rfl
  refine sl_build (cs := [rwV r, .slice none 0 0, .int .i64 (n + 1)]) (L2 := [(0, rwV r), (2, .int .i64 (n + 1))]) fr rfl rfl rfl rfl rfl (by
    have e1 := (fr.ev (o := .tmp 16) rfl).1
    have e2 := (fr.ev (o := .tmp 20) rfl).1
    simp [e1, e2]) (by kernel_rfl) (vok_agg fun v hv => by
    simp only [List.mem_cons, List.not_mem_nil, or_false] at hv
    rcases hv with rfl | rfl | rfl
    · exact vok_sl (A := r.1) hm
    · rfl
    · exact hwf) fun a fr => ?_
  refine sl_lit1 (z := 3) (cs := [rwV r, .slice none 0 0, .int .i64 (n + 1)]) Tryz.underlying31 (by kernel_rfl) rfl fr rfl rfl rfl rfl rfl rfl rfl (by simp only [List.all_cons, List.all_nil, Bool.and_true, Bool.and_eq_true]; exact ⟨vok_sl (A := r.1) hm, rfl, hwf⟩) S ?_
  intro w3 A3 c3 S
  refine ⟨(S.frontAt 1 rfl).firsts [_], fun a fr => ?_⟩
  have S := (S.frontAt 2 rfl).frontAt 1 rfl
  refine sl_rvapp (z := 3) (bytes := 56) Tryz.underlying31 (by kernel_rfl) rfl rfl fr rfl rfl rfl rfl rfl rfl rfl rfl (by omega) S ?_
  intro w4 A4 c4 S
  refine ⟨(S.frontAt 1 rfl).firsts [_], fun a fr => ?_⟩
  refine sl_next ?_
  refine sl_run orcByte_ok 2 rfl fr fun a fr => ?_
  have S := S.frontAt 1 rfl
  refine sl_stf (j := 1) orcByte_ok fr rfl rfl rfl rfl rfl rfl rfl rfl rfl S (Nat.ble_eq_true_of_le (by rw [List.length_set]; exact hlj)) ?_
  intro w5 S
  refine ⟨S.firsts [], ?_⟩
  refine sl_end ?_
  refine end_ret ?_
  refine ret0 fr rfl ?_
  refine ⟨A4, c4, rfl, ?_⟩
  have e : hdsV (hs ++ [⟨r.1, r.2.1, r.2.2, none, n + 1⟩]) = hdsV hs ++ [rwV r, .slice none 0 0, .int .i64 (n + 1)] := by simp [hdsV, hdV, Hd.lv, rwV]
  rw [e]
  exact S.frontAt 2 rfl
def fillByte (h : Hd) : Hd := { h with l := List.replicate h.l.length (mkByte h.k) }
theorem fillByte_V (h : Hd) : hdV (fillByte h) = hdV h := by simp [hdV, fillByte, Hd.lv]
set_option maxRecDepth 100000 in
set_option maxHeartbeats 1000000 in
theorem fillByte_call (hg : ∀ h ∈ hs, h.g = none) (hj : cells[1]? = some (.slice A hs.length c)) (hh : hs.length ≤ 1000000000)
    (S : Sat w0 w (stA 44 b cells :: rvA 246 3 A c hs.length (hdsV hs) :: (hs.map (hdA .u8 5) ++ R))) :
    Calls Tryz.prog 84 #[.pointer (some ⟨b, 0, none⟩)] w fun e w' => e = .returned (.tuple #[]) ∧ Sat w0 w' (stA 44 b cells :: rvA 246 3 A c hs.length (hdsV hs) :: ((hs.map fillByte).map (hdA .u8 5) ++ R)) := by
  refine calls_start (N := 35) [.pointer (some ⟨b, 0, none⟩)] Tryz.func84 rfl rfl rfl (vok_c rfl rfl) fun a fr => ?_
  skip; (repeat (with_reducible refine wp_seq ?_)); refine wp_region_lit ?_
  refine wl_run orcByte_ok 1 rfl fr fun a fr => ?_
  refine wpList_nil ?_; (repeat (with_reducible refine then_n ?_))
  skip; (repeat (with_reducible refine wp_seq ?_))
  refine wp_block ?_
  refine cw_loop (fun q a w1 => ∃ i : Nat, i + q = hs.length + 1 ∧ i ≤ hs.length ∧ Fr 35 a [(0, .pointer (some ⟨b, 0, none⟩)), (2, .int .i64 (i : Int))] ∧ Sat w0 w1 (stA 44 b cells :: rvA 246 3 A c hs.length (hdsV hs) :: ((partL fillByte i hs).map (hdA .u8 5) ++ R))) (hs.length + 1)
    ⟨0, by omega, by omega, fr.sub ⟨rfl, rfl, trivial⟩, by rw [partL_0]; exact S⟩ ?_ ?_
  · rintro a w1 ⟨i, h, h', -⟩
    omega
  clear fr S
  rintro q a w1 ⟨i, hi, hi', fr, S⟩
  skip; (repeat (with_reducible refine wp_seq ?_)); refine wp_region_lit ?_
  refine wl_run orcByte_ok 4 rfl fr fun a fr => ?_
  refine wl_ldf orcByte_ok (Sat.stAt S 0 rfl hj) fr rfl rfl rfl rfl rfl rfl rfl fun a fr => ?_
  refine wl_run orcByte_ok 2 rfl fr fun a fr => ?_
  refine wpList_nil ?_; (repeat (with_reducible refine then_n ?_))
  by_cases hlt : i < hs.length
  rotate_left
  · have fr := fr.bool (d := 11) rfl (decide_eq_false (show ¬ (i : Int) < (hs.length : Int) by omega))
    skip; (repeat (with_reducible refine wp_seq ?_))
    refine cw_f fr rfl ?_
    refine wp_exit ?_
    skip; (repeat (first | (with_reducible refine then_e ?_) | (with_reducible refine ng_e ?_) | (with_reducible refine blk_e (by decide) ?_))); (with_reducible refine blk_y ?_); (repeat (with_reducible refine then_n ?_))
    refine end_ret ?_
    refine ret0 fr rfl ?_
    have e : i = hs.length := by omega
    subst e
    rw [partL_all] at S
    exact ⟨rfl, S⟩
  have fr := fr.bool (d := 11) rfl (decide_eq_true (show (i : Int) < (hs.length : Int) by omega))
  skip; (repeat (with_reducible refine wp_seq ?_))
  refine cw_t fr rfl ?_
  refine wp_skip ?_
  (with_reducible refine then_n ?_)
  skip; (repeat (with_reducible refine wp_seq ?_))
  refine wp_block ?_
  skip; (repeat (with_reducible refine wp_seq ?_)); refine wp_region_lit ?_
  refine wl_run orcByte_ok 3 rfl fr fun a fr => ?_
  refine wl_ldf orcByte_ok (Sat.stAt S 0 rfl hj) fr rfl rfl rfl rfl rfl rfl rfl fun a fr => ?_
  refine wl_run orcByte_ok 1 rfl fr fun a fr => ?_
  obtain ⟨⟨g, hA⟩, hr, hv⟩ := held_at S 1 rfl hlt
  obtain ⟨h, hhd⟩ : ∃ h, hs[i] = h := ⟨_, rfl⟩
  have hgn := hg hs[i] (List.getElem_mem hlt)
  rw [hhd] at hr hv hgn
  refine wl_ldv orcByte_ok (z := 3) (i := (i : Int)) (cs := hdV h) (fun ad he => by obtain ⟨g, h1, h2⟩ := hr ad he; exact ⟨g, h1, h2⟩) (by rw [hA]; simp) hv fr rfl rfl rfl rfl rfl rfl rfl rfl rfl rfl rfl rfl rfl rfl rfl rfl ⟨by omega, by omega⟩ fun a fr => ?_
  refine wl_allocg fr rfl rfl rfl rfl zeroByte rfl S ?_
  intro w2 bh S a fr
  refine wl_stg orcByte_ok (cs := [.slice none 0 0, .slice none 0 0, .int .i64 0]) (vs := hdV h) fr rfl rfl rfl rfl rfl rfl rfl (by rw [List.all_eq_true]; intro v hm; have := hv v hm; unfold hdV Hd.lv at hm; rw [hgn] at hm; simp only [List.mem_cons, List.not_mem_nil, or_false] at hm; rcases hm with rfl | rfl | rfl <;> simp_all [Value.oneCell', vok, vokC]) S ?_
  intro w3 S
  refine wpList_nil ?_; (repeat (with_reducible refine then_n ?_))
  skip; (repeat (with_reducible refine wp_seq ?_)); refine wp_region_lit ?_
  refine wl_run orcByte_ok 1 rfl fr fun a fr => ?_
  refine wpList_nil ?_; (repeat (with_reducible refine then_n ?_))
  have hpl : i < (partL fillByte i hs).length := by rw [partL_len]; exact hlt
  have S := hds_out [stA 246 bh (hdV h), stA 44 b cells, rvA 246 3 A c hs.length (hdsV hs)] S hpl
  rw [partL_get' hlt hpl, hhd] at S
  obtain ⟨A1, c1, l1, g1, k1⟩ := h
  simp only at hgn
  subst hgn
  have S : Sat w0 w3 (ownA .u8 5 A1 c1 (List.replicate 0 (mkByte k1) ++ l1.drop 0) :: stA 246 bh [.slice A1 l1.length c1, .slice none 0 0, .int .i64 k1] :: stA 44 b cells :: rvA 246 3 A c hs.length (hdsV hs) :: (((partL fillByte i hs).eraseIdx i).map (hdA .u8 5) ++ R)) := S
  have hk1 : (Lit.int .i64 k1).wf = true := hv (.int .i64 k1) (by simp [hdV])
  have hl1 := S.own.2
  simp only [List.replicate_zero, List.nil_append, List.drop_zero] at hl1
  skip; (repeat (with_reducible refine wp_seq ?_))
  refine wp_block ?_
  refine cw_loop (fun q a w1 => ∃ j : Nat, j + q = l1.length + 1 ∧ j ≤ l1.length ∧ Fr 35 a [(0, .pointer (some ⟨b, 0, none⟩)), (2, .int .i64 (i : Int)), (3, .pointer (some ⟨bh, 0, none⟩)), (4, .int .i64 (j : Int))] ∧ Sat w0 w1 (ownA .u8 5 A1 c1 (List.replicate j (mkByte k1) ++ l1.drop j) :: stA 246 bh [.slice A1 l1.length c1, .slice none 0 0, .int .i64 k1] :: stA 44 b cells :: rvA 246 3 A c hs.length (hdsV hs) :: (((partL fillByte i hs).eraseIdx i).map (hdA .u8 5) ++ R))) (l1.length + 1)
    ⟨0, by omega, by omega, fr.sub ⟨rfl, rfl, rfl, rfl, trivial⟩, S⟩ ?_ ?_
  · rintro a w1 ⟨j, h, h', -⟩
    omega
  clear fr S hr hv
  rintro q2 a w4 ⟨j, hj1, hj2, fr, S⟩
  skip; (repeat (with_reducible refine wp_seq ?_)); refine wp_region_lit ?_
  refine wl_run orcByte_ok 2 rfl fr fun a fr => ?_
  refine wl_ldf orcByte_ok (Sat.stAt S 1 rfl (j := 0) rfl) fr rfl rfl rfl rfl rfl rfl rfl fun a fr => ?_
  refine wl_run orcByte_ok 2 rfl fr fun a fr => ?_
  refine wpList_nil ?_; (repeat (with_reducible refine then_n ?_))
  by_cases hlj : j < l1.length
  rotate_left
  · have fr := fr.bool (d := 25) rfl (decide_eq_false (show ¬ (j : Int) < (l1.length : Int) by omega))
    skip; (repeat (with_reducible refine wp_seq ?_))
    refine cw_f fr rfl ?_
    refine wp_exit ?_
    skip; (repeat (first | (with_reducible refine then_e ?_) | (with_reducible refine ng_e ?_) | (with_reducible refine blk_e (by decide) ?_))); (with_reducible refine blk_y ?_); (repeat (with_reducible refine then_n ?_))
    (repeat (first | (with_reducible refine then_n ?_) | (with_reducible refine blk_n ?_) | (with_reducible refine ng_n ?_)))
    skip; (repeat (with_reducible refine wp_seq ?_)); refine wp_region_lit ?_
    refine wl_run orcByte_ok 3 rfl fr fun a fr => ?_
    refine wpList_nil ?_; (repeat (with_reducible refine then_n ?_))
    have fr := fr.spell (d := 2) rfl (congrArg (Value.int .i64) (i64_next hlt (by omega)))
    have e : j = l1.length := by omega
    subst e
    rw [List.drop_length, List.append_nil] at S
    have S := S.frontAt 1 rfl
    have S := S.tl
    have S := hds_in (h' := fillByte ⟨A1, c1, l1, none, k1⟩) [stA 44 b cells, rvA 246 3 A c hs.length (hdsV hs)] S hpl
    rw [← hhd, partL_set hlt] at S
    exact ⟨i + 1, by omega, by omega, fr.sub ⟨rfl, rfl, trivial⟩, S⟩
  have fr := fr.bool (d := 25) rfl (decide_eq_true (show (j : Int) < (l1.length : Int) by omega))
  skip; (repeat (with_reducible refine wp_seq ?_))
  refine cw_t fr rfl ?_
  refine wp_skip ?_
  (with_reducible refine then_n ?_)
  skip; (repeat (with_reducible refine wp_seq ?_))
  refine wp_block ?_
  skip; (repeat (with_reducible refine wp_seq ?_))
  refine wp_region_sl [.one (0, true, some 28), .one (1, true, some 29), .one (2, true, some 30), .one (3, true, some 31), .one (4, true, some 32), .one (5, false, some 33), .one (6, true, some 34), .one (7, false, none)]
                [.one ⟨true, some 28, (Go.Op.fieldAddr 246 (Go.Operand.tmp 3) 0), 0, none⟩,
                .one ⟨true, some 29, (Go.Op.load 45 (Go.Operand.tmp 28)), 45, none⟩,
                .one ⟨true, some 30, (Go.Op.move (Go.Operand.tmp 4)), 3, none⟩,
                .one ⟨true, some 31, (Go.Op.fieldAddr 246 (Go.Operand.tmp 3) 2), 0, none⟩,
                .one ⟨true, some 32, (Go.Op.load 3 (Go.Operand.tmp 31)), 3, none⟩,
                .one ⟨false, some 33, (Go.Op.call { callee := (Go.Callee.value (Go.Operand.func 185)), args := #[(Go.Operand.tmp 32)], argTypes := #[3] }), 5, none⟩,
                .one ⟨true, some 34, (Go.Op.indexAddr 45 (Go.Operand.tmp 29) (Go.Operand.tmp 30)), 0, none⟩,
                .one ⟨false, none, (Go.Op.store 5 (Go.Operand.tmp 34) (Go.Operand.tmp 33)), 0, none⟩]
                (fun w' => Sat w0 w' [stA 246 bh [.slice A1 l1.length c1, .slice none 0 0, .int .i64 k1]]) rfl (by kernel_rfl) (by kernel_rfl) ?_ ?_
  · exact (S.drew.frontAt 1 rfl).firsts [_]
  have S := S.drew
  refine sl_run orcByte_ok 1 rfl fr fun a fr => ?_
  refine sl_ldf orcByte_ok (fun _ S => Sat.stAt S 0 rfl (j := 0) rfl) fr rfl rfl rfl rfl rfl rfl rfl rfl ((S.frontAt 1 rfl).firsts [_]) fun a fr => ?_
  refine sl_run orcByte_ok 2 rfl fr fun a fr => ?_
  refine sl_ldf orcByte_ok (fun _ S => Sat.stAt S 0 rfl (j := 2) rfl) fr rfl rfl rfl rfl rfl rfl rfl rfl ((S.frontAt 1 rfl).firsts [_]) fun a fr => ?_
  refine sl_call fr rfl rfl rfl rfl rfl enMkByte (markByte_call hk1 S) ?_
  rintro _ w5 ⟨rfl, S⟩
  refine ⟨_, rfl, mkByte_wf _, (S.frontAt 1 rfl).firsts [_], fun a fr => ?_⟩
  have hlen : (List.replicate j (mkByte k1) ++ l1.drop j).length = l1.length := by simp; omega
  refine sl_pe orcByte_ok (l := List.replicate j (mkByte k1) ++ l1.drop j) (i := (j : Int)) S.own.1 fr rfl rfl rfl rfl rfl rfl rfl rfl rfl hlen.symm ⟨by omega, by omega⟩ fun a fr => ?_
  refine sl_ste orcByte_ok (i := (j : Int)) fr rfl rfl rfl rfl rfl rfl rfl S ⟨by omega, by omega⟩ ?_
  intro w6 S
  refine ⟨(S.frontAt 1 rfl).firsts [_], ?_⟩
  refine sl_end ?_
  (repeat (first | (with_reducible refine then_n ?_) | (with_reducible refine blk_n ?_) | (with_reducible refine ng_n ?_)))
  skip; (repeat (with_reducible refine wp_seq ?_)); refine wp_region_lit ?_
  refine wl_run orcByte_ok 3 rfl fr fun a fr => ?_
  refine wpList_nil ?_; (repeat (with_reducible refine then_n ?_))
  have fr := fr.spell (d := 4) rfl (congrArg (Value.int .i64) (i64_next hlj (by unfold maxLen at hl1; omega)))
  have e : (List.replicate j (mkByte k1) ++ l1.drop j).set (j : Int).toNat (mkByte k1) = List.replicate (j + 1) (mkByte k1) ++ l1.drop (j + 1) := by
    rw [Int.toNat_natCast, List.set_append_right _ _ (by simp), List.length_replicate, Nat.sub_self, List.replicate_succ', List.append_assoc]
    congr 1
    rw [List.drop_eq_getElem_cons hlj, List.set_cons_zero]; rfl
  rw [e] at S
  exact ⟨j + 1, by omega, by omega, fr.sub ⟨rfl, rfl, rfl, rfl, trivial⟩, S⟩
def GrewByte (i : Nat) (hs hs' : List Hd) : Prop := hs'.length = hs.length ∧ ∀ j (hj : j < hs.length), if j < i then ∃ A c, hs'[j]? = some { hs[j] with g := some (A, c, hs[j].l ++ List.replicate 40 (mkByte hs[j].k)) } else hs'[j]? = some hs[j]
set_option maxRecDepth 100000 in
set_option maxHeartbeats 1000000 in
theorem growByte_call (hg : ∀ h ∈ hs, h.g = none) (hb : ∀ h ∈ hs, h.l.length ≤ 100000000000) (hj : cells[1]? = some (.slice A hs.length c)) (hh : hs.length ≤ 1000000000)
    (S : Sat w0 w (stA 44 b cells :: rvA 246 3 A c hs.length (hdsV hs) :: (hs.map (hdA .u8 5) ++ R))) :
    Calls Tryz.prog 96 #[.pointer (some ⟨b, 0, none⟩)] w fun e w' => ∃ hs', GrewByte hs.length hs hs' ∧ e = .returned (.tuple #[]) ∧ Sat w0 w' (stA 44 b cells :: rvA 246 3 A c hs'.length (hdsV hs') :: (hs'.map (hdA .u8 5) ++ R)) := by
  refine calls_start (N := 42) [.pointer (some ⟨b, 0, none⟩)] Tryz.func96 rfl rfl rfl (vok_c rfl rfl) fun a fr => ?_
  skip; (repeat (with_reducible refine wp_seq ?_)); refine wp_region_lit ?_
  refine wl_run orcByte_ok 1 rfl fr fun a fr => ?_
  refine wpList_nil ?_; (repeat (with_reducible refine then_n ?_))
  skip; (repeat (with_reducible refine wp_seq ?_))
  refine wp_block ?_
  refine cw_loop (fun q a w1 => ∃ (i : Nat) (hs' : List Hd), i + q = hs.length + 1 ∧ i ≤ hs.length ∧ GrewByte i hs hs' ∧ Fr 42 a [(0, .pointer (some ⟨b, 0, none⟩)), (2, .int .i64 (i : Int))] ∧ Sat w0 w1 (stA 44 b cells :: rvA 246 3 A c hs'.length (hdsV hs') :: (hs'.map (hdA .u8 5) ++ R))) (hs.length + 1)
    ⟨0, hs, by omega, by omega, ⟨rfl, fun j hj => by rw [if_neg (by omega)]; exact List.getElem?_eq_getElem hj⟩, fr.sub ⟨rfl, rfl, trivial⟩, S⟩ ?_ ?_
  · rintro a w1 ⟨i, hs', h, h', -⟩
    omega
  clear fr S
  rintro q a w1 ⟨i, hs', hi, hi', hgr, fr, S⟩
  obtain ⟨hgl, hgr⟩ := hgr
  skip; (repeat (with_reducible refine wp_seq ?_)); refine wp_region_lit ?_
  refine wl_run orcByte_ok 4 rfl fr fun a fr => ?_
  refine wl_ldf orcByte_ok (Sat.stAt S 0 rfl hj) fr rfl rfl rfl rfl rfl rfl rfl fun a fr => ?_
  refine wl_run orcByte_ok 2 rfl fr fun a fr => ?_
  refine wpList_nil ?_; (repeat (with_reducible refine then_n ?_))
  by_cases hlt : i < hs.length
  rotate_left
  · have fr := fr.bool (d := 12) rfl (decide_eq_false (show ¬ (i : Int) < (hs.length : Int) by omega))
    skip; (repeat (with_reducible refine wp_seq ?_))
    refine cw_f fr rfl ?_
    refine wp_exit ?_
    skip; (repeat (first | (with_reducible refine then_e ?_) | (with_reducible refine ng_e ?_) | (with_reducible refine blk_e (by decide) ?_))); (with_reducible refine blk_y ?_); (repeat (with_reducible refine then_n ?_))
    refine end_ret ?_
    refine ret0 fr rfl ?_
    have e : i = hs.length := by omega
    subst e
    exact ⟨hs', ⟨hgl, hgr⟩, rfl, S⟩
  have fr := fr.bool (d := 12) rfl (decide_eq_true (show (i : Int) < (hs.length : Int) by omega))
  skip; (repeat (with_reducible refine wp_seq ?_))
  refine cw_t fr rfl ?_
  refine wp_skip ?_
  (with_reducible refine then_n ?_)
  skip; (repeat (with_reducible refine wp_seq ?_))
  refine wp_block ?_
  have hlt' : i < hs'.length := by omega
  obtain ⟨⟨g, hA⟩, hr, hv⟩ := held_at S 1 rfl hlt'
  have hcur := hgr i hlt
  rw [if_neg (by omega), List.getElem?_eq_getElem hlt'] at hcur
  injection hcur with hcur
  obtain ⟨h, hhd⟩ : ∃ h, hs[i] = h := ⟨_, rfl⟩
  have hgn := hg hs[i] (List.getElem_mem hlt)
  have hbn := hb hs[i] (List.getElem_mem hlt)
  rw [hcur] at hr hv
  rw [hhd] at hr hv hgn hbn
  skip; (repeat (with_reducible refine wp_seq ?_)); refine wp_region_lit ?_
  refine wl_run orcByte_ok 3 rfl fr fun a fr => ?_
  refine wl_ldf orcByte_ok (Sat.stAt S 0 rfl hj) fr rfl rfl rfl rfl rfl rfl rfl fun a fr => ?_
  refine wl_run orcByte_ok 1 rfl fr fun a fr => ?_
  refine wl_ldv orcByte_ok (z := 3) (i := (i : Int)) (cs := hdV h) (fun ad he => by obtain ⟨g, h1, h2⟩ := hr ad he; exact ⟨g, h1, h2⟩) (by rw [hA]; simp) hv fr rfl rfl rfl rfl rfl rfl rfl rfl rfl rfl rfl rfl rfl rfl rfl rfl ⟨by omega, by omega⟩ fun a fr => ?_
  refine wl_allocg fr rfl rfl rfl rfl zeroByte rfl S ?_
  intro w2 bh S a fr
  refine wl_stg orcByte_ok (cs := [.slice none 0 0, .slice none 0 0, .int .i64 0]) (vs := hdV h) fr rfl rfl rfl rfl rfl rfl rfl (by rw [List.all_eq_true]; intro v hm; have := hv v hm; unfold hdV Hd.lv at hm; rw [hgn] at hm; simp only [List.mem_cons, List.not_mem_nil, or_false] at hm; rcases hm with rfl | rfl | rfl <;> simp_all [Value.oneCell', vok, vokC]) S ?_
  intro w3 S
  refine wpList_nil ?_; (repeat (with_reducible refine then_n ?_))
  have S := hds_out [stA 246 bh (hdV h), stA 44 b cells, rvA 246 3 A c hs'.length (hdsV hs')] S hlt'
  rw [hcur, hhd] at S
  obtain ⟨A1, c1, l1, g1, k1⟩ := h
  simp only at hgn hbn
  subst hgn
  have S : Sat w0 w3 (ownA .u8 5 A1 c1 l1 :: stA 246 bh [.slice A1 l1.length c1, .slice none 0 0, .int .i64 k1] :: stA 44 b cells :: rvA 246 3 A c hs'.length (hdsV hs') :: ((hs'.eraseIdx i).map (hdA .u8 5) ++ R)) := S
  have hk1 : (Lit.int .i64 k1).wf = true := hv (.int .i64 k1) (by simp [hdV])
  have S := gw_start (rv_of_own S)
  skip; (repeat (with_reducible refine wp_seq ?_)); refine wp_region_lit ?_
  refine wl_run orcByte_ok 1 rfl fr fun a fr => ?_
  refine wl_ldf orcByte_ok (Sat.stAt S 1 rfl (j := 0) rfl) fr rfl rfl rfl rfl rfl rfl rfl fun a fr => ?_
  refine wl_run orcByte_ok 1 rfl fr fun a fr => ?_
  refine wpList_nil ?_; (repeat (with_reducible refine then_n ?_))
  skip; (repeat (with_reducible refine wp_seq ?_)); refine wp_region_lit ?_
  refine wl_run orcByte_ok 1 rfl fr fun a fr => ?_
  refine wpList_nil ?_; (repeat (with_reducible refine then_n ?_))
  have S : Sat w0 w3 (gwA 5 1 A1 (l1.map (Value.int .u8)) A1 c1 (l1.length + 0) ((l1 ++ List.replicate 0 (mkByte k1)).map (Value.int .u8)) :: stA 246 bh [.slice A1 l1.length c1, .slice none 0 0, .int .i64 k1] :: stA 44 b cells :: rvA 246 3 A c hs'.length (hdsV hs') :: ((hs'.eraseIdx i).map (hdA .u8 5) ++ R)) := by
    rw [List.replicate_zero, List.append_nil]; exact S
  skip; (repeat (with_reducible refine wp_seq ?_))
  refine wp_block ?_
  refine cw_loop (fun q a w1 => ∃ (j : Nat) (A2 : Option Addr) (c2 : Nat), j + q = 41 ∧ j ≤ 40 ∧ Fr 42 a [(0, .pointer (some ⟨b, 0, none⟩)), (2, .int .i64 (i : Int)), (3, .pointer (some ⟨bh, 0, none⟩)), (4, .slice A2 (l1.length + j) c2), (5, .int .i64 (j : Int))] ∧ Sat w0 w1 (gwA 5 1 A1 (l1.map (Value.int .u8)) A2 c2 (l1.length + j) ((l1 ++ List.replicate j (mkByte k1)).map (Value.int .u8)) :: stA 246 bh [.slice A1 l1.length c1, .slice none 0 0, .int .i64 k1] :: stA 44 b cells :: rvA 246 3 A c hs'.length (hdsV hs') :: ((hs'.eraseIdx i).map (hdA .u8 5) ++ R))) 41
    ⟨0, A1, c1, by omega, by omega, fr.sub ⟨rfl, rfl, rfl, rfl, rfl, trivial⟩, S⟩ ?_ ?_
  · rintro a w1 ⟨j, A2, c2, h, h', -⟩
    omega
  clear fr S hr hv
  rintro q2 a w4 ⟨j, A2, c2, hj1, hj2, fr, S⟩
  skip; (repeat (with_reducible refine wp_seq ?_)); refine wp_region_lit ?_
  refine wl_run orcByte_ok 2 rfl fr fun a fr => ?_
  refine wpList_nil ?_; (repeat (with_reducible refine then_n ?_))
  by_cases hlj : j < 40
  rotate_left
  · have fr := fr.bool (d := 25) rfl (decide_eq_false (show ¬ (j : Int) < (40 : Int) by omega))
    skip; (repeat (with_reducible refine wp_seq ?_))
    refine cw_f fr rfl ?_
    refine wp_exit ?_
    skip; (repeat (first | (with_reducible refine then_e ?_) | (with_reducible refine ng_e ?_) | (with_reducible refine blk_e (by decide) ?_))); (with_reducible refine blk_y ?_); (repeat (with_reducible refine then_n ?_))
    skip; (repeat (with_reducible refine wp_seq ?_)); refine wp_region_lit ?_
    refine wl_run orcByte_ok 3 rfl fr fun a fr => ?_
    refine wl_ldf orcByte_ok (Sat.stAt S 2 rfl hj) fr rfl rfl rfl rfl rfl rfl rfl fun a fr => ?_
    refine wl_run orcByte_ok 2 rfl fr fun a fr => ?_
    subst hA
    refine wl_val fr rfl rfl rfl (indexAddr_run orcByte_ok fr rfl rfl rfl rfl rfl (Int.natCast_nonneg _) (show (i : Int) < ((hs.length : Nat) : Int) by omega) _) rfl fun a fr => ?_
    refine wl_run orcByte_ok 1 rfl fr fun a fr => ?_
    have S := S.frontAt 3 rfl
    have hv2 : vok (.slice A2 (l1.length + j) c2) = true := fr.vok (d := 39) rfl
    have fr := fr.spell (d := 41) rfl (show Value.pointer (some (((⟨g, 0, none⟩ : Addr).add ((i : Int).toNat * 3)).add 1)) = Value.pointer (some ⟨g, (i : Int).toNat * 3 + 1, none⟩) by rw [add_add, addr0])
    refine wl_strv (j := (i : Int).toNat * 3 + 1) (n := hs'.length) (z := 3) orcByte_ok fr rfl rfl rfl rfl rfl rfl rfl rfl hv2 S (by rw [Int.toNat_natCast]; omega) ?_
    intro w5 S
    refine wpList_nil ?_; (repeat (with_reducible refine then_n ?_))
    (repeat (first | (with_reducible refine then_n ?_) | (with_reducible refine blk_n ?_) | (with_reducible refine ng_n ?_)))
    skip; (repeat (with_reducible refine wp_seq ?_)); refine wp_region_lit ?_
    refine wl_run orcByte_ok 3 rfl fr fun a fr => ?_
    refine wpList_nil ?_; (repeat (with_reducible refine then_n ?_))
    have fr := fr.spell (d := 2) rfl (congrArg (Value.int .i64) (i64_next hlt (by omega)))
    have e : j = 40 := by omega
    subst e
    have e2 : (i : Int).toNat * 3 + 1 = i * 3 + 1 := by rw [Int.toNat_natCast]
    have hll : (l1 ++ List.replicate 40 (mkByte k1)).length = l1.length + 40 := by simp
    rw [e2, hdsV_set hs' i ⟨A1, c1, l1, some (A2, c2, l1 ++ List.replicate 40 (mkByte k1)), k1⟩ _ hlt' (by rw [hcur, hhd]; simp [hdV, Hd.lv])] at S
    rw [← hll] at S
    have S := (S.frontAt 2 rfl).tl
    have S := (S.frontAt 2 rfl).frontAt 2 rfl
    have S := hds_in (k := .u8) (e := 5) (h' := ⟨A1, c1, l1, some (A2, c2, l1 ++ List.replicate 40 (mkByte k1)), k1⟩) [stA 44 b cells, rvA 246 3 (some ⟨g, 0, none⟩) c hs'.length (hdsV (hs'.set i ⟨A1, c1, l1, some (A2, c2, l1 ++ List.replicate 40 (mkByte k1)), k1⟩))] S hlt'
    refine ⟨i + 1, hs'.set i ⟨A1, c1, l1, some (A2, c2, l1 ++ List.replicate 40 (mkByte k1)), k1⟩, by omega, by omega, ⟨by rw [List.length_set]; exact hgl, fun p hp => ?_⟩, fr.sub ⟨rfl, rfl, trivial⟩, by rw [List.length_set]; exact S⟩
    by_cases hpi : p = i
    · subst hpi
      rw [if_pos (by omega), List.getElem?_set_self hlt', hhd]
      exact ⟨A2, c2, rfl⟩
    · have := hgr p hp
      rw [List.getElem?_set_ne (fun e => hpi e.symm)]
      by_cases hpl : p < i
      · rw [if_pos hpl] at this; rw [if_pos (by omega)]; exact this
      · rw [if_neg hpl] at this; rw [if_neg (by omega)]; exact this
  have fr := fr.bool (d := 25) rfl (decide_eq_true (show (j : Int) < (40 : Int) by omega))
  skip; (repeat (with_reducible refine wp_seq ?_))
  refine cw_t fr rfl ?_
  refine wp_skip ?_
  (with_reducible refine then_n ?_)
  skip; (repeat (with_reducible refine wp_seq ?_))
  refine wp_block ?_
  skip; (repeat (with_reducible refine wp_seq ?_)); refine wp_region_lit ?_
  refine wl_run orcByte_ok 2 rfl fr fun a fr => ?_
  refine wl_ldf orcByte_ok (Sat.stAt S 1 rfl (j := 2) rfl) fr rfl rfl rfl rfl rfl rfl rfl fun a fr => ?_
  refine wl_call fr rfl rfl rfl rfl enMkByte (markByte_call hk1 S) ?_
  rintro _ w5 ⟨rfl, S⟩
  refine ⟨_, rfl, mkByte_wf _, fun a fr => ?_⟩
  refine wl_lit (xs := [mkByte k1]) orcByte_ok rowByte fr rfl rfl rfl rfl ⟨rfl, rfl, trivial⟩ rfl rfl S ?_
  intro w6 A3 c3 S a fr
  refine wl_gwnum rowByte fr rfl rfl rfl rfl rfl rfl (by simp) (by omega) S ?_
  intro w7 A4 c4 S a fr
  refine wl_run orcByte_ok 1 rfl fr fun a fr => ?_
  refine wpList_nil ?_; (repeat (with_reducible refine then_n ?_))
  (repeat (first | (with_reducible refine then_n ?_) | (with_reducible refine blk_n ?_) | (with_reducible refine ng_n ?_)))
  skip; (repeat (with_reducible refine wp_seq ?_)); refine wp_region_lit ?_
  refine wl_run orcByte_ok 3 rfl fr fun a fr => ?_
  refine wpList_nil ?_; (repeat (with_reducible refine then_n ?_))
  have fr := fr.spell (d := 5) rfl (congrArg (Value.int .i64) (i64_next hlj (by decide)))
  rw [List.append_assoc, ← List.replicate_succ'] at S
  exact ⟨j + 1, A4, c4, by omega, by omega, fr.sub ⟨rfl, rfl, rfl, rfl, rfl, trivial⟩, S⟩
set_option maxRecDepth 100000 in
set_option maxHeartbeats 1000000 in
theorem lookByte_call (hl : ∀ h ∈ hs, (∀ z ∈ h.l, z = mkByte h.k) ∧ h.l.length ≤ 100000000000 ∧ ∃ A c, h.g = some (A, c, h.l ++ List.replicate 40 (mkByte h.k))) (hj : cells[1]? = some (.slice A hs.length c)) (hh : hs.length ≤ 1000000000)
    (S : Sat w0 w (stA 44 b cells :: rvA 246 3 A c hs.length (hdsV hs) :: (hs.map (hdA .u8 5) ++ R))) :
    Calls Tryz.prog 108 #[.pointer (some ⟨b, 0, none⟩)] w fun e w' => e = .returned (.bool true) ∧ Sat w0 w' (stA 44 b cells :: rvA 246 3 A c hs.length (hdsV hs) :: (hs.map (hdA .u8 5) ++ R)) := by
  refine calls_start (N := 64) [.pointer (some ⟨b, 0, none⟩)] Tryz.func108 rfl rfl rfl (vok_c rfl rfl) fun a fr => ?_
  skip; (repeat (with_reducible refine wp_seq ?_)); refine wp_region_lit ?_
  refine wl_run orcByte_ok 1 rfl fr fun a fr => ?_
  refine wpList_nil ?_; (repeat (with_reducible refine then_n ?_))
  skip; (repeat (with_reducible refine wp_seq ?_)); refine wp_region_lit ?_
  refine wl_run orcByte_ok 1 rfl fr fun a fr => ?_
  refine wpList_nil ?_; (repeat (with_reducible refine then_n ?_))
  skip; (repeat (with_reducible refine wp_seq ?_))
  refine wp_block ?_
  refine cw_loop (fun q a w1 => ∃ i : Nat, i + q = hs.length + 1 ∧ i ≤ hs.length ∧ Fr 64 a [(0, .pointer (some ⟨b, 0, none⟩)), (3, .int .i64 (i : Int))] ∧ Sat w0 w1 (stA 44 b cells :: rvA 246 3 A c hs.length (hdsV hs) :: (hs.map (hdA .u8 5) ++ R))) (hs.length + 1)
    ⟨0, by omega, by omega, fr.sub ⟨rfl, rfl, trivial⟩, S⟩ ?_ ?_
  · rintro a w1 ⟨i, h, h', -⟩
    omega
  clear fr S
  rintro q a w1 ⟨i, hi, hi', fr, S⟩
  skip; (repeat (with_reducible refine wp_seq ?_)); refine wp_region_lit ?_
  refine wl_run orcByte_ok 4 rfl fr fun a fr => ?_
  refine wl_ldf orcByte_ok (Sat.stAt S 0 rfl hj) fr rfl rfl rfl rfl rfl rfl rfl fun a fr => ?_
  refine wl_run orcByte_ok 2 rfl fr fun a fr => ?_
  refine wpList_nil ?_; (repeat (with_reducible refine then_n ?_))
  by_cases hlt : i < hs.length
  rotate_left
  · have fr := fr.bool (d := 12) rfl (decide_eq_false (show ¬ (i : Int) < (hs.length : Int) by omega))
    skip; (repeat (with_reducible refine wp_seq ?_))
    refine cw_f fr rfl ?_
    refine wp_exit ?_
    skip; (repeat (first | (with_reducible refine then_e ?_) | (with_reducible refine ng_e ?_) | (with_reducible refine blk_e (by decide) ?_))); (with_reducible refine blk_y ?_); (repeat (with_reducible refine then_n ?_))
    skip; (repeat (with_reducible refine wp_seq ?_)); refine wp_region_lit ?_
    refine wl_run orcByte_ok 1 rfl fr fun a fr => ?_
    refine wpList_nil ?_; (repeat (with_reducible refine then_n ?_))
    refine wp_ret ?_
    skip; (repeat (first | (with_reducible refine then_r ?_) | (with_reducible refine blk_r ?_) | (with_reducible refine ng_r ?_)))
    refine ret1 fr rfl rfl ?_
    exact ⟨rfl, S⟩
  have fr := fr.bool (d := 12) rfl (decide_eq_true (show (i : Int) < (hs.length : Int) by omega))
  skip; (repeat (with_reducible refine wp_seq ?_))
  refine cw_t fr rfl ?_
  refine wp_skip ?_
  (with_reducible refine then_n ?_)
  skip; (repeat (with_reducible refine wp_seq ?_))
  refine wp_block ?_
  obtain ⟨⟨g, hA⟩, hr, hv⟩ := held_at S 1 rfl hlt
  obtain ⟨h, hhd⟩ : ∃ h, hs[i] = h := ⟨_, rfl⟩
  obtain ⟨hz, hb, A2, c2, hgn⟩ := hl hs[i] (List.getElem_mem hlt)
  rw [hhd] at hr hv hz hb hgn
  skip; (repeat (with_reducible refine wp_seq ?_)); refine wp_region_lit ?_
  refine wl_run orcByte_ok 3 rfl fr fun a fr => ?_
  refine wl_ldf orcByte_ok (Sat.stAt S 0 rfl hj) fr rfl rfl rfl rfl rfl rfl rfl fun a fr => ?_
  refine wl_run orcByte_ok 1 rfl fr fun a fr => ?_
  refine wl_ldv orcByte_ok (z := 3) (i := (i : Int)) (cs := hdV h) (fun ad he => by obtain ⟨g, h1, h2⟩ := hr ad he; exact ⟨g, h1, h2⟩) (by rw [hA]; simp) hv fr rfl rfl rfl rfl rfl rfl rfl rfl rfl rfl rfl rfl rfl rfl rfl rfl ⟨by omega, by omega⟩ fun a fr => ?_
  refine wl_allocg fr rfl rfl rfl rfl zeroByte rfl S ?_
  intro w2 bh S a fr
  refine wl_stg orcByte_ok (cs := [.slice none 0 0, .slice none 0 0, .int .i64 0]) (vs := hdV h) fr rfl rfl rfl rfl rfl rfl rfl (by rw [List.all_eq_true]; intro v hm; have := hv v hm; unfold hdV Hd.lv at hm; rw [hgn] at hm; simp only [List.mem_cons, List.not_mem_nil, or_false] at hm; rcases hm with rfl | rfl | rfl <;> simp_all [Value.oneCell', vok, vokC, hdV, Hd.lv]) S ?_
  intro w3 S
  refine wpList_nil ?_; (repeat (with_reducible refine then_n ?_))
  have S := hds_out [stA 246 bh (hdV h), stA 44 b cells, rvA 246 3 A c hs.length (hdsV hs)] S hlt
  rw [hhd] at S
  obtain ⟨A1, c1, l1, g1, k1⟩ := h
  simp only at hgn hz hb
  subst hgn
  have hk1 : (Lit.int .i64 k1).wf = true := hv (.int .i64 k1) (by simp [hdV])
  obtain ⟨ys, hys⟩ : ∃ ys, l1 ++ List.replicate 40 (mkByte k1) = ys := ⟨_, rfl⟩
  have hyl : ys.length = l1.length + 40 := by rw [← hys]; simp
  have hyz : ∀ z ∈ ys, z = mkByte k1 := fun z hm => by
    rw [← hys] at hm
    rcases List.mem_append.1 hm with hm | hm
    · exact hz z hm
    · exact List.eq_of_mem_replicate hm
  rw [hys] at S hhd
  have S : Sat w0 w3 (gwA 5 1 A1 (l1.map (Value.int .u8)) A2 c2 ys.length (ys.map (Value.int .u8)) :: stA 246 bh [.slice A1 l1.length c1, .slice A2 ys.length c2, .int .i64 k1] :: stA 44 b cells :: rvA 246 3 A c hs.length (hdsV hs) :: ((hs.eraseIdx i).map (hdA .u8 5) ++ R)) := S
  clear hv hr
  skip; (repeat (with_reducible refine wp_seq ?_)); refine wp_region_lit ?_
  refine wl_run orcByte_ok 1 rfl fr fun a fr => ?_
  refine wl_ldf orcByte_ok (Sat.stAt S 1 rfl (j := 1) rfl) fr rfl rfl rfl rfl rfl rfl rfl fun a fr => ?_
  refine wl_run orcByte_ok 2 rfl fr fun a fr => ?_
  refine wl_ldf orcByte_ok (Sat.stAt S 1 rfl (j := 0) rfl) fr rfl rfl rfl rfl rfl rfl rfl fun a fr => ?_
  refine wl_run orcByte_ok 3 rfl fr fun a fr => ?_
  refine wpList_nil ?_; (repeat (with_reducible refine then_n ?_))
  have fr := fr.bool (d := 29) rfl (show ((ys.length : Int) != IntKind.wrap .i64 ((l1.length : Int) + 40)) = false by
    rw [show IntKind.wrap .i64 ((l1.length : Int) + 40) = (l1.length : Int) + 40 from IntWalk.i64_in _ ⟨by omega, by omega⟩, hyl]; simp)
  skip; (repeat (with_reducible refine wp_seq ?_))
  refine cw_f fr rfl ?_
  refine wp_skip ?_
  (with_reducible refine then_n ?_)
  skip; (repeat (with_reducible refine wp_seq ?_)); refine wp_region_lit ?_
  refine wl_run orcByte_ok 1 rfl fr fun a fr => ?_
  refine wpList_nil ?_; (repeat (with_reducible refine then_n ?_))
  skip; (repeat (with_reducible refine wp_seq ?_))
  refine wp_block ?_
  refine cw_loop (fun q a w1 => ∃ j : Nat, j + q = ys.length + 1 ∧ j ≤ ys.length ∧ Fr 64 a [(0, .pointer (some ⟨b, 0, none⟩)), (3, .int .i64 (i : Int)), (4, .pointer (some ⟨bh, 0, none⟩)), (5, .int .i64 (j : Int))] ∧ Sat w0 w1 (gwA 5 1 A1 (l1.map (Value.int .u8)) A2 c2 ys.length (ys.map (Value.int .u8)) :: stA 246 bh [.slice A1 l1.length c1, .slice A2 ys.length c2, .int .i64 k1] :: stA 44 b cells :: rvA 246 3 A c hs.length (hdsV hs) :: ((hs.eraseIdx i).map (hdA .u8 5) ++ R))) (ys.length + 1)
    ⟨0, by omega, by omega, fr.sub ⟨rfl, rfl, rfl, rfl, trivial⟩, S⟩ ?_ ?_
  · rintro a w1 ⟨j, h, h', -⟩
    omega
  clear fr S
  rintro q2 a w4 ⟨j, hj1, hj2, fr, S⟩
  skip; (repeat (with_reducible refine wp_seq ?_)); refine wp_region_lit ?_
  refine wl_run orcByte_ok 2 rfl fr fun a fr => ?_
  refine wl_ldf orcByte_ok (Sat.stAt S 1 rfl (j := 1) rfl) fr rfl rfl rfl rfl rfl rfl rfl fun a fr => ?_
  refine wl_run orcByte_ok 2 rfl fr fun a fr => ?_
  refine wpList_nil ?_; (repeat (with_reducible refine then_n ?_))
  by_cases hlj : j < ys.length
  rotate_left
  · have fr := fr.bool (d := 34) rfl (decide_eq_false (show ¬ (j : Int) < (ys.length : Int) by omega))
    skip; (repeat (with_reducible refine wp_seq ?_))
    refine cw_f fr rfl ?_
    refine wp_exit ?_
    skip; (repeat (first | (with_reducible refine then_e ?_) | (with_reducible refine ng_e ?_) | (with_reducible refine blk_e (by decide) ?_))); (with_reducible refine blk_y ?_); (repeat (with_reducible refine then_n ?_))
    (repeat (first | (with_reducible refine then_n ?_) | (with_reducible refine blk_n ?_) | (with_reducible refine ng_n ?_)))
    skip; (repeat (with_reducible refine wp_seq ?_)); refine wp_region_lit ?_
    refine wl_run orcByte_ok 3 rfl fr fun a fr => ?_
    refine wpList_nil ?_; (repeat (with_reducible refine then_n ?_))
    have fr := fr.spell (d := 3) rfl (congrArg (Value.int .i64) (i64_next hlt (by omega)))
    have S := (S.frontAt 1 rfl).tl
    have S := hds_in (k := .u8) (e := 5) (h' := ⟨A1, c1, l1, some (A2, c2, ys), k1⟩) [stA 44 b cells, rvA 246 3 A c hs.length (hdsV hs)] S hlt
    rw [← hhd, List.set_getElem_self] at S
    exact ⟨i + 1, by omega, by omega, fr.sub ⟨rfl, rfl, trivial⟩, S⟩
  have fr := fr.bool (d := 34) rfl (decide_eq_true (show (j : Int) < (ys.length : Int) by omega))
  skip; (repeat (with_reducible refine wp_seq ?_))
  refine cw_t fr rfl ?_
  refine wp_skip ?_
  (with_reducible refine then_n ?_)
  skip; (repeat (with_reducible refine wp_seq ?_))
  refine wp_block ?_
  skip; (repeat (with_reducible refine wp_seq ?_))
  refine wp_region_sl [.one (0, true, some 37), .one (1, true, some 38), .one (2, true, some 39), .one (3, true, some 40), .one (4, true, some 41), .one (5, true, some 42), .one (6, true, some 43), .one (7, false, some 44), .one (8, true, some 45), .one (9, true, some 46), .one (10, true, some 47), .one (11, true, some 48), .one (12, true, some 49), .one (13, true, some 50), .one (14, true, some 51), .one (15, true, some 52), .one (16, true, some 53), .one (17, true, some 54), .one (18, true, some 55), .one (19, true, some 56), .one (20, true, some 57), .one (21, true, some 58), .one (22, true, some 59), .one (23, false, some 60), .one (24, true, some 61), .one (25, true, some 62), .one (26, true, some 63)]
                [.one ⟨true, some 37, (Go.Op.fieldAddr 246 (Go.Operand.tmp 4) 1), 0, none⟩,
                .one ⟨true, some 38, (Go.Op.load 45 (Go.Operand.tmp 37)), 45, none⟩,
                .one ⟨true, some 39, (Go.Op.move (Go.Operand.tmp 5)), 3, none⟩,
                .one ⟨true, some 40, (Go.Op.indexAddr 45 (Go.Operand.tmp 38) (Go.Operand.tmp 39)), 0, none⟩,
                .one ⟨true, some 41, (Go.Op.load 5 (Go.Operand.tmp 40)), 5, none⟩,
                .one ⟨true, some 42, (Go.Op.fieldAddr 246 (Go.Operand.tmp 4) 2), 0, none⟩,
                .one ⟨true, some 43, (Go.Op.load 3 (Go.Operand.tmp 42)), 3, none⟩,
                .one ⟨false, some 44, (Go.Op.call { callee := (Go.Callee.value (Go.Operand.func 197)), args := #[(Go.Operand.tmp 41), (Go.Operand.tmp 43)], argTypes := #[5, 3] }), 4, none⟩,
                .one ⟨true, some 45, (Go.Op.unOp Go.UnOp.not 4 (Go.Operand.tmp 44)), 4, none⟩,
                .one ⟨true, some 46, (Go.Op.move (Go.Operand.tmp 45)), 4, none⟩,
                .one ⟨true, some 47, (Go.Op.move (Go.Operand.tmp 5)), 3, some (46, false)⟩,
                .one ⟨true, some 48, (Go.Op.fieldAddr 246 (Go.Operand.tmp 4) 0), 0, some (46, false)⟩,
                .one ⟨true, some 49, (Go.Op.load 45 (Go.Operand.tmp 48)), 45, some (46, false)⟩,
                .one ⟨true, some 50, (Go.Op.call { callee := (Go.Callee.builtin Go.Builtin.len), args := #[(Go.Operand.tmp 49)], argTypes := #[45] }), 3, some (46, false)⟩,
                .one ⟨true, some 51, (Go.Op.binOp Go.BinOp.lss 3 (Go.Operand.tmp 47) (Go.Operand.tmp 50) 3), 4, some (46, false)⟩,
                .one ⟨true, some 52, (Go.Op.move (Go.Operand.tmp 51)), 4, some (46, false)⟩,
                .one ⟨true, some 53, (Go.Op.fieldAddr 246 (Go.Operand.tmp 4) 0), 0, some (52, true)⟩,
                .one ⟨true, some 54, (Go.Op.load 45 (Go.Operand.tmp 53)), 45, some (52, true)⟩,
                .one ⟨true, some 55, (Go.Op.move (Go.Operand.tmp 5)), 3, some (52, true)⟩,
                .one ⟨true, some 56, (Go.Op.indexAddr 45 (Go.Operand.tmp 54) (Go.Operand.tmp 55)), 0, some (52, true)⟩,
                .one ⟨true, some 57, (Go.Op.load 5 (Go.Operand.tmp 56)), 5, some (52, true)⟩,
                .one ⟨true, some 58, (Go.Op.fieldAddr 246 (Go.Operand.tmp 4) 2), 0, some (52, true)⟩,
                .one ⟨true, some 59, (Go.Op.load 3 (Go.Operand.tmp 58)), 3, some (52, true)⟩,
                .one ⟨false, some 60, (Go.Op.call { callee := (Go.Callee.value (Go.Operand.func 197)), args := #[(Go.Operand.tmp 57), (Go.Operand.tmp 59)], argTypes := #[5, 3] }), 4, some (52, true)⟩,
                .one ⟨true, some 61, (Go.Op.unOp Go.UnOp.not 4 (Go.Operand.tmp 60)), 4, some (52, true)⟩,
                .one ⟨true, some 62, (Go.Op.pick (Go.Operand.tmp 52) (Go.Operand.tmp 61) (Go.Operand.const (Go.Value.bool false))), 4, some (46, false)⟩,
                .one ⟨true, some 63, (Go.Op.pick (Go.Operand.tmp 46) (Go.Operand.const (Go.Value.bool true)) (Go.Operand.tmp 62)), 4, none⟩]
                (fun w' => Sat w0 w' [gwA 5 1 A1 (l1.map (Value.int .u8)) A2 c2 ys.length (ys.map (Value.int .u8)), stA 246 bh [.slice A1 l1.length c1, .slice A2 ys.length c2, .int .i64 k1]]) rfl (by kernel_rfl) (by kernel_rfl) ?_ ?_
  · exact S.drew.firsts [_, _]
  have S := S.drew
  have hyj : ys.getD j 0 = mkByte k1 := by rw [List.getD_eq_getElem?_getD, List.getElem?_eq_getElem hlj]; exact hyz _ (List.getElem_mem hlj)
  refine sl_run orcByte_ok 1 rfl fr fun a fr => ?_
  refine sl_ldf orcByte_ok (fun _ S => Sat.stAt S 1 rfl (j := 1) rfl) fr rfl rfl rfl rfl rfl rfl rfl rfl (S.firsts [_, _]) fun a fr => ?_
  refine sl_run orcByte_ok 1 rfl fr fun a fr => ?_
  refine sl_ld orcByte_ok (fun _ S => (gw_reads S 0 rfl).2.1) fr rfl rfl rfl rfl rfl rfl rfl rfl rfl rfl rfl rfl rfl rfl rfl rfl rfl rfl ⟨by omega, by omega⟩ (S.firsts [_, _]) fun a fr => ?_
  refine sl_run orcByte_ok 1 rfl fr fun a fr => ?_
  refine sl_ldf orcByte_ok (fun _ S => Sat.stAt S 1 rfl (j := 2) rfl) fr rfl rfl rfl rfl rfl rfl rfl rfl (S.firsts [_, _]) fun a fr => ?_
  refine sl_call fr rfl rfl rfl rfl rfl enIsByte (isByte_call (fr.int (d := 41) rfl) hk1 S) ?_
  rintro _ w5 ⟨rfl, S⟩
  refine ⟨_, rfl, rfl, S.firsts [_, _], fun a fr => ?_⟩
  have fr := fr.bool (d := 44) rfl (show (ys.getD (j : Int).toNat 0 == mkByte k1) = true by rw [Int.toNat_natCast, hyj]; simp)
  refine sl_run orcByte_ok 4 rfl fr fun a fr => ?_
  refine sl_ldf orcByte_ok (fun _ S => Sat.stAt S 1 rfl (j := 0) rfl) fr rfl rfl rfl rfl rfl rfl rfl rfl (S.firsts [_, _]) fun a fr => ?_
  refine sl_run orcByte_ok 3 rfl fr fun a fr => ?_
  have hend : ∀ {a : Act} {w5 : World} {L : Env}, Fr 64 a L → L.lookup 0 = some (.pointer (some ⟨b, 0, none⟩)) → L.lookup 3 = some (.int .i64 (i : Int)) → L.lookup 4 = some (.pointer (some ⟨bh, 0, none⟩)) → L.lookup 5 = some (.int .i64 (j : Int)) → L.lookup 63 = some (.bool false) → Sat w0 w5 (gwA 5 1 A1 (l1.map (Value.int .u8)) A2 c2 ys.length (ys.map (Value.int .u8)) :: stA 246 bh [.slice A1 l1.length c1, .slice A2 ys.length c2, .int .i64 k1] :: stA 44 b cells :: rvA 246 3 A c hs.length (hdsV hs) :: ((hs.eraseIdx i).map (hdA .u8 5) ++ R)) →
      Fr 64 a [(0, .pointer (some ⟨b, 0, none⟩)), (3, .int .i64 (i : Int)), (4, .pointer (some ⟨bh, 0, none⟩)), (5, .int .i64 (j : Int)), (63, .bool false)] := fun fr h0 h3 h4 h5 h63 _ => fr.sub ⟨h0, h3, h4, h5, h63, trivial⟩
  by_cases hjl : j < l1.length
  · have fr := fr.bool (d := 52) rfl (decide_eq_true (show (j : Int) < (l1.length : Int) by omega))
    have hlj2 : l1.getD j 0 = mkByte k1 := by rw [List.getD_eq_getElem?_getD, List.getElem?_eq_getElem hjl]; exact hz _ (List.getElem_mem hjl)
    refine sl_run orcByte_ok 1 rfl fr fun a fr => ?_
    refine sl_ldf orcByte_ok (fun _ S => Sat.stAt S 1 rfl (j := 0) rfl) fr rfl rfl rfl rfl rfl rfl rfl rfl (S.firsts [_, _]) fun a fr => ?_
    refine sl_run orcByte_ok 1 rfl fr fun a fr => ?_
    refine sl_ld orcByte_ok (fun _ S => (gw_reads S 0 rfl).1) fr rfl rfl rfl rfl rfl rfl rfl rfl rfl rfl rfl rfl rfl rfl rfl rfl rfl rfl ⟨by omega, by omega⟩ (S.firsts [_, _]) fun a fr => ?_
    refine sl_run orcByte_ok 1 rfl fr fun a fr => ?_
    refine sl_ldf orcByte_ok (fun _ S => Sat.stAt S 1 rfl (j := 2) rfl) fr rfl rfl rfl rfl rfl rfl rfl rfl (S.firsts [_, _]) fun a fr => ?_
    refine sl_call fr rfl rfl rfl rfl rfl enIsByte (isByte_call (fr.int (d := 57) rfl) hk1 S) ?_
    rintro _ w6 ⟨rfl, S⟩
    refine ⟨_, rfl, rfl, S.firsts [_, _], fun a fr => ?_⟩
    have fr := fr.bool (d := 60) rfl (show (l1.getD (j : Int).toNat 0 == mkByte k1) = true by rw [Int.toNat_natCast, hlj2]; simp)
    refine sl_run orcByte_ok 3 rfl fr fun a fr => ?_
    refine sl_end ?_
    have fr := hend fr rfl rfl rfl rfl rfl S
    (repeat (with_reducible refine then_n ?_))
    skip; (repeat (with_reducible refine wp_seq ?_))
    refine cw_f fr rfl ?_
    refine wp_skip ?_
    (repeat (first | (with_reducible refine then_n ?_) | (with_reducible refine blk_n ?_) | (with_reducible refine ng_n ?_)))
    skip; (repeat (with_reducible refine wp_seq ?_)); refine wp_region_lit ?_
    refine wl_run orcByte_ok 3 rfl fr fun a fr => ?_
    refine wpList_nil ?_; (repeat (with_reducible refine then_n ?_))
    have fr := fr.spell (d := 5) rfl (congrArg (Value.int .i64) (i64_next hlj (by omega)))
    exact ⟨j + 1, by omega, by omega, fr.sub ⟨rfl, rfl, rfl, rfl, trivial⟩, S⟩
  · have fr := fr.bool (d := 52) rfl (decide_eq_false (show ¬ (j : Int) < (l1.length : Int) by omega))
    refine sl_run orcByte_ok 7 rfl fr fun a fr => ?_
    refine sl_no fr rfl (S.firsts [_, _]) rfl rfl fun a fr => ?_
    refine sl_run orcByte_ok 3 rfl fr fun a fr => ?_
    refine sl_end ?_
    have fr := hend fr rfl rfl rfl rfl rfl S
    (repeat (with_reducible refine then_n ?_))
    skip; (repeat (with_reducible refine wp_seq ?_))
    refine cw_f fr rfl ?_
    refine wp_skip ?_
    (repeat (first | (with_reducible refine then_n ?_) | (with_reducible refine blk_n ?_) | (with_reducible refine ng_n ?_)))
    skip; (repeat (with_reducible refine wp_seq ?_)); refine wp_region_lit ?_
    refine wl_run orcByte_ok 3 rfl fr fun a fr => ?_
    refine wpList_nil ?_; (repeat (with_reducible refine then_n ?_))
    have fr := fr.spell (d := 5) rfl (congrArg (Value.int .i64) (i64_next hlj (by omega)))
    exact ⟨j + 1, by omega, by omega, fr.sub ⟨rfl, rfl, rfl, rfl, trivial⟩, S⟩
end
end Go.Proofs.YticnjkdaccacaaaGreatDoor.Sx
end
section
namespace Go.Proofs.YticnjkdaccacaaaGreatDoor.Sx
open Go Go.RowKit Base _root_.Go.Proofs.YticnjkdaccacaaaGreatDoor.Own OwnV
def orcId : Orc := ⟨[(3, .int .i64), (4, .bool), (86, .int .u32), (91, .slice 86), (249, .struct #[Go.Field.mk "l" 91 0 false "" "concordat/concordatlaw01" 0, Go.Field.mk "long" 91 1 false "" "concordat/concordatlaw01" 24, Go.Field.mk "n" 3 2 false "" "concordat/concordatlaw01" 48]), (32, .slice 249), (153, .pointer 44), (44, .struct #[Go.Field.mk "n" 3 0 false "" "concordat/concordatlaw01" 0, Go.Field.mk "bytes" 31 1 false "" "concordat/concordatlaw01" 8, Go.Field.mk "ids" 32 2 false "" "concordat/concordatlaw01" 32, Go.Field.mk "ints" 33 3 false "" "concordat/concordatlaw01" 56, Go.Field.mk "texts" 34 4 false "" "concordat/concordatlaw01" 80, Go.Field.mk "rows" 35 5 false "" "concordat/concordatlaw01" 104, Go.Field.mk "ops" 36 6 false "" "concordat/concordatlaw01" 128, Go.Field.mk "spans" 37 7 false "" "concordat/concordatlaw01" 152, Go.Field.mk "changes" 38 8 false "" "concordat/concordatlaw01" 176, Go.Field.mk "results" 39 9 false "" "concordat/concordatlaw01" 200, Go.Field.mk "msgs" 40 10 false "" "concordat/concordatlaw01" 224, Go.Field.mk "parts" 41 11 false "" "concordat/concordatlaw01" 248, Go.Field.mk "deeds" 42 12 false "" "concordat/concordatlaw01" 272])],
  [(3, 1), (4, 1), (86, 1), (91, 1), (249, 3), (32, 1), (153, 1), (44, 13)]⟩
theorem orcId_ok : orcId.Ok Tryz.prog := ⟨⟨Tryz.underlying3, Tryz.underlying4, Tryz.underlying86, Tryz.underlying91, Tryz.underlying249, Tryz.underlying32, Tryz.underlying153, Tryz.underlying44, trivial⟩, ⟨by kernel_rfl, by kernel_rfl, by kernel_rfl, by kernel_rfl, by kernel_rfl, by kernel_rfl, by kernel_rfl, by kernel_rfl, trivial⟩⟩
theorem rowId : RowTy Tryz.prog 91 86 .u32 := ⟨Tryz.underlying91, 4, by decide, by kernel_rfl⟩
theorem zeroId : ∀ W, (zeroValue 249).run Tryz.prog W = .ok (.agg ([.slice none 0 0, .slice none 0 0, .int .i64 0] : List Value).toArray) W := fun _ => by kernel_rfl
def mkId (n : Int) : Int := IntKind.wrap .u32 (IntKind.wrap .i64 (1000 + n))
theorem mkId_wf (n : Int) : (Lit.int .u32 (mkId n)).wf = true := wf_wrap _ _
theorem enMkId : Enters Tryz.prog 186 := fun _ _ => by kernel_rfl
theorem enIsId : Enters Tryz.prog 198 := fun _ _ => by kernel_rfl
theorem enKeepId : Enters Tryz.prog 132 := fun _ _ => by kernel_rfl
section
variable {w w0 : World} {R : List Asn}
theorem markId_call {n : Int} (hv : (Lit.int .i64 n).wf = true) (S : Sat w0 w R) : Calls Tryz.prog 186 #[.int .i64 n] w fun e w' => e = .returned (.int .u32 (mkId n)) ∧ Sat w0 w' R := by
  refine calls_start (N := 6) [.int .i64 n] Tryz.func186 rfl rfl rfl (vok_c hv rfl) fun a fr => ?_
  skip; (repeat (with_reducible refine wp_seq ?_)); refine wp_region_lit ?_
  refine wl_run orcId_ok 1 rfl fr fun a fr => ?_
  refine wpList_nil ?_; (repeat (with_reducible refine then_n ?_))
  skip; (repeat (with_reducible refine wp_seq ?_)); refine wp_region_lit ?_
  refine wl_run orcId_ok 4 rfl fr fun a fr => ?_
  refine wpList_nil ?_; (repeat (with_reducible refine then_n ?_))
  refine wp_ret ?_
  refine ret1 fr rfl rfl ?_
  exact ⟨rfl, S⟩
theorem isId_call {x n : Int} (hx : (Lit.int .u32 x).wf = true) (hv : (Lit.int .i64 n).wf = true) (S : Sat w0 w R) : Calls Tryz.prog 198 #[.int .u32 x, .int .i64 n] w fun e w' => e = .returned (.bool (x == mkId n)) ∧ Sat w0 w' R := by
  refine calls_start (N := 10) [.int .u32 x, .int .i64 n] Tryz.func198 rfl rfl rfl (vok_c hx (vok_c hv rfl)) fun a fr => ?_
  skip; (repeat (with_reducible refine wp_seq ?_)); refine wp_region_lit ?_
  refine wl_run orcId_ok 1 rfl fr fun a fr => ?_
  refine wpList_nil ?_; (repeat (with_reducible refine then_n ?_))
  skip; (repeat (with_reducible refine wp_seq ?_)); refine wp_region_lit ?_
  refine wl_run orcId_ok 6 rfl fr fun a fr => ?_
  refine wpList_nil ?_; (repeat (with_reducible refine then_n ?_))
  refine wp_ret ?_
  refine ret1 fr rfl rfl ?_
  exact ⟨rfl, S⟩
variable {b c : Nat} {A : Option Addr} {cells : List Value} {hs : List Hd}
set_option maxRecDepth 100000 in
set_option maxHeartbeats 1000000 in
theorem keepId_call {r : Rw} {n : Int} (hm : r.2.2.length ≤ r.2.1 ∧ r.2.1 ≤ maxLen) (hn : n + 1 ≤ 1000000000 ∧ 0 ≤ n) (h0 : cells[0]? = some (.int .i64 n)) (hj : cells[2]? = some (.slice A hs.length c)) (hh : hs.length ≤ 1000000000)
    (S : Sat w0 w (ownA .u32 86 r.1 r.2.1 r.2.2 :: stA 44 b cells :: rvA 249 3 A c hs.length (hdsV hs) :: R)) :
    Calls Tryz.prog 132 #[.pointer (some ⟨b, 0, none⟩), rwV r] w fun e w' => ∃ A' c', e = .returned (.tuple #[]) ∧ Sat w0 w' (ownA .u32 86 r.1 r.2.1 r.2.2 :: stA 44 b ((cells.set 0 (.int .i64 (n + 1))).set 2 (.slice A' (hs.length + 1) c')) :: rvA 249 3 A' c' (hs.length + 1) (hdsV (hs ++ [⟨r.1, r.2.1, r.2.2, none, n + 1⟩])) :: R) := by
  refine calls_start (N := 26) [.pointer (some ⟨b, 0, none⟩), rwV r] Tryz.func132 rfl rfl rfl (vok_c rfl (vok_c (vok_sl (A := r.1) hm) rfl)) fun a fr => ?_
  skip; (repeat (with_reducible refine wp_seq ?_)); refine wp_region_lit ?_
  refine wl_run orcId_ok 3 rfl fr fun a fr => ?_
  refine wl_ldf orcId_ok (Sat.stAt S 1 rfl h0) fr rfl rfl rfl rfl rfl rfl rfl fun a fr => ?_
  refine wl_run orcId_ok 3 rfl fr fun a fr => ?_
  have hw : IntKind.wrap .i64 (n + 1) = n + 1 := IntWalk.i64_in _ ⟨by omega, by omega⟩
  have fr := fr.spell (d := 8) rfl (congrArg (Value.int .i64) hw)
  have S := S.frontAt 1 rfl
  have hl0 : 0 < cells.length := (List.getElem?_eq_some_iff.1 h0).1
  have hlj : 2 < cells.length := (List.getElem?_eq_some_iff.1 hj).1
  refine wl_stf (j := 0) orcId_ok fr rfl rfl rfl rfl rfl rfl rfl rfl S (Nat.ble_eq_true_of_le hl0) ?_
  intro w2 S
  refine wpList_nil ?_; (repeat (with_reducible refine then_n ?_))
  have q0 : (cells.set 0 (.int .i64 (n + 1)))[0]? = some (.int .i64 (n + 1)) := by simp [hl0]
  have qj : (cells.set 0 (.int .i64 (n + 1)))[2]? = some (.slice A hs.length c) := by rw [List.getElem?_set_ne (by decide)]; exact hj
  have S : Sat w0 w2 (stA 44 b (cells.set 0 (.int .i64 (n + 1))) :: rvA 249 3 A c hs.length (hdsV hs) :: ownA .u32 86 r.1 r.2.1 r.2.2 :: R) := (S.frontAt 2 rfl).frontAt 1 rfl
  skip; (repeat (with_reducible refine wp_seq ?_))
  refine wp_region_ph [] [13, 14, 15] [] [] [.one (0, true, some 11), .one (1, true, some 12), .one (2, true, some 13), .one (3, true, some 14), .one (4, true, some 15), .one (5, true, some 16), .one (6, true, some 17), .one (7, true, some 18), .one (8, true, some 19), .one (9, true, some 20), .one (10, true, some 21), .one (11, false, some 22), .one (12, false, some 23)] [.one ⟨true, some 11, (Go.Op.move (Go.Operand.tmp 0)), 153, none⟩,
    .one ⟨true, some 12, (Go.Op.move (Go.Operand.tmp 0)), 153, none⟩,
    .one ⟨true, some 13, (Go.Op.nilCheck (Go.Operand.tmp 12)), 0, none⟩,
    .one ⟨true, some 14, (Go.Op.fieldAddr 44 (Go.Operand.tmp 13) 2), 0, none⟩,
    .one ⟨true, some 15, (Go.Op.load 32 (Go.Operand.tmp 14)), 32, none⟩,
    .one ⟨true, some 16, (Go.Op.move (Go.Operand.tmp 1)), 91, none⟩,
    .one ⟨true, some 17, (Go.Op.move (Go.Operand.tmp 0)), 153, none⟩,
    .one ⟨true, some 18, (Go.Op.nilCheck (Go.Operand.tmp 17)), 0, none⟩,
    .one ⟨true, some 19, (Go.Op.fieldAddr 44 (Go.Operand.tmp 18) 0), 0, none⟩,
    .one ⟨true, some 20, (Go.Op.load 3 (Go.Operand.tmp 19)), 3, none⟩,
    .one ⟨true, some 21, (Go.Op.build 249 #[(0, (Go.Operand.tmp 16)), (2, (Go.Operand.tmp 20))]), 249, none⟩,
    .one ⟨false, some 22, (Go.Op.buildSlice 32 1 #[(0, (Go.Operand.tmp 21))]), 32, none⟩,
    .one ⟨false, some 23, (Go.Op.call { callee := (Go.Callee.builtin Go.Builtin.append), args := #[(Go.Operand.tmp 15), (Go.Operand.tmp 22)], argTypes := #[32, 32] }), 32, none⟩] [.one (13, true, some 24), .one (14, true, some 25), .one (15, false, none)] [.one ⟨true, some 24, (Go.Op.nilCheck (Go.Operand.tmp 11)), 0, none⟩,
    .one ⟨true, some 25, (Go.Op.fieldAddr 44 (Go.Operand.tmp 24) 2), 0, none⟩,
    .one ⟨false, none, (Go.Op.store 32 (Go.Operand.tmp 25) (Go.Operand.tmp 23)), 0, none⟩] (fun v => Sat w0 v [stA 44 b (cells.set 0 (.int .i64 (n + 1)))]) (fun v => Sat w0 v []) rfl (by kernel_rfl) (by kernel_rfl) (by kernel_rfl) (by kernel_rfl) (S.drew.firsts [_]) (fun _ S => S.firsts []) ?_
  have S := S.drew
  refine sl_next ?_
  refine sl_run orcId_ok 4 rfl fr fun a fr => ?_
  refine sl_ldf orcId_ok (fun _ S => Sat.stAt S 0 rfl qj) fr rfl rfl rfl rfl rfl rfl rfl rfl (S.firsts [_]) fun a fr => ?_
  refine sl_run orcId_ok 4 rfl fr fun a fr => ?_
  refine sl_ldf orcId_ok (fun _ S => Sat.stAt S 0 rfl q0) fr rfl rfl rfl rfl rfl rfl rfl rfl (S.firsts [_]) fun a fr => ?_
  have hwf : (Lit.int .i64 (n + 1)).wf = true := fr.int (d := 20) rfl
  refine sl_build (cs := [rwV r, .slice none 0 0, .int .i64 (n + 1)]) (L2 := [(0, rwV r), (2, .int .i64 (n + 1))]) fr rfl rfl rfl rfl rfl (by
    have e1 := (fr.ev (o := .tmp 16) rfl).1
    have e2 := (fr.ev (o := .tmp 20) rfl).1
    simp [e1, e2]) (by kernel_rfl) (vok_agg fun v hv => by
    simp only [List.mem_cons, List.not_mem_nil, or_false] at hv
    rcases hv with rfl | rfl | rfl
    · exact vok_sl (A := r.1) hm
    · rfl
    · exact hwf) fun a fr => ?_
  refine sl_lit1 (z := 3) (cs := [rwV r, .slice none 0 0, .int .i64 (n + 1)]) Tryz.underlying32 (by kernel_rfl) rfl fr rfl rfl rfl rfl rfl rfl rfl (by simp only [List.all_cons, List.all_nil, Bool.and_true, Bool.and_eq_true]; exact ⟨vok_sl (A := r.1) hm, rfl, hwf⟩) S ?_
  intro w3 A3 c3 S
  refine ⟨(S.frontAt 1 rfl).firsts [_], fun a fr => ?_⟩
  have S := (S.frontAt 2 rfl).frontAt 1 rfl
  refine sl_rvapp (z := 3) (bytes := 56) Tryz.underlying32 (by kernel_rfl) rfl rfl fr rfl rfl rfl rfl rfl rfl rfl rfl (by omega) S ?_
  intro w4 A4 c4 S
  refine ⟨(S.frontAt 1 rfl).firsts [_], fun a fr => ?_⟩
  refine sl_next ?_
  refine sl_run orcId_ok 2 rfl fr fun a fr => ?_
  have S := S.frontAt 1 rfl
  refine sl_stf (j := 2) orcId_ok fr rfl rfl rfl rfl rfl rfl rfl rfl rfl S (Nat.ble_eq_true_of_le (by rw [List.length_set]; exact hlj)) ?_
  intro w5 S
  refine ⟨S.firsts [], ?_⟩
  refine sl_end ?_
  refine end_ret ?_
  refine ret0 fr rfl ?_
  refine ⟨A4, c4, rfl, ?_⟩
  have e : hdsV (hs ++ [⟨r.1, r.2.1, r.2.2, none, n + 1⟩]) = hdsV hs ++ [rwV r, .slice none 0 0, .int .i64 (n + 1)] := by simp [hdsV, hdV, Hd.lv, rwV]
  rw [e]
  exact S.frontAt 2 rfl
def fillId (h : Hd) : Hd := { h with l := List.replicate h.l.length (mkId h.k) }
theorem fillId_V (h : Hd) : hdV (fillId h) = hdV h := by simp [hdV, fillId, Hd.lv]
set_option maxRecDepth 100000 in
set_option maxHeartbeats 1000000 in
theorem fillId_call (hg : ∀ h ∈ hs, h.g = none) (hj : cells[2]? = some (.slice A hs.length c)) (hh : hs.length ≤ 1000000000)
    (S : Sat w0 w (stA 44 b cells :: rvA 249 3 A c hs.length (hdsV hs) :: (hs.map (hdA .u32 86) ++ R))) :
    Calls Tryz.prog 85 #[.pointer (some ⟨b, 0, none⟩)] w fun e w' => e = .returned (.tuple #[]) ∧ Sat w0 w' (stA 44 b cells :: rvA 249 3 A c hs.length (hdsV hs) :: ((hs.map fillId).map (hdA .u32 86) ++ R)) := by
  refine calls_start (N := 35) [.pointer (some ⟨b, 0, none⟩)] Tryz.func85 rfl rfl rfl (vok_c rfl rfl) fun a fr => ?_
  skip; (repeat (with_reducible refine wp_seq ?_)); refine wp_region_lit ?_
  refine wl_run orcId_ok 1 rfl fr fun a fr => ?_
  refine wpList_nil ?_; (repeat (with_reducible refine then_n ?_))
  skip; (repeat (with_reducible refine wp_seq ?_))
  refine wp_block ?_
  refine cw_loop (fun q a w1 => ∃ i : Nat, i + q = hs.length + 1 ∧ i ≤ hs.length ∧ Fr 35 a [(0, .pointer (some ⟨b, 0, none⟩)), (2, .int .i64 (i : Int))] ∧ Sat w0 w1 (stA 44 b cells :: rvA 249 3 A c hs.length (hdsV hs) :: ((partL fillId i hs).map (hdA .u32 86) ++ R))) (hs.length + 1)
    ⟨0, by omega, by omega, fr.sub ⟨rfl, rfl, trivial⟩, by rw [partL_0]; exact S⟩ ?_ ?_
  · rintro a w1 ⟨i, h, h', -⟩
    omega
  clear fr S
  rintro q a w1 ⟨i, hi, hi', fr, S⟩
  skip; (repeat (with_reducible refine wp_seq ?_)); refine wp_region_lit ?_
  refine wl_run orcId_ok 4 rfl fr fun a fr => ?_
  refine wl_ldf orcId_ok (Sat.stAt S 0 rfl hj) fr rfl rfl rfl rfl rfl rfl rfl fun a fr => ?_
  refine wl_run orcId_ok 2 rfl fr fun a fr => ?_
  refine wpList_nil ?_; (repeat (with_reducible refine then_n ?_))
  by_cases hlt : i < hs.length
  rotate_left
  · have fr := fr.bool (d := 11) rfl (decide_eq_false (show ¬ (i : Int) < (hs.length : Int) by omega))
    skip; (repeat (with_reducible refine wp_seq ?_))
    refine cw_f fr rfl ?_
    refine wp_exit ?_
    skip; (repeat (first | (with_reducible refine then_e ?_) | (with_reducible refine ng_e ?_) | (with_reducible refine blk_e (by decide) ?_))); (with_reducible refine blk_y ?_); (repeat (with_reducible refine then_n ?_))
    refine end_ret ?_
    refine ret0 fr rfl ?_
    have e : i = hs.length := by omega
    subst e
    rw [partL_all] at S
    exact ⟨rfl, S⟩
  have fr := fr.bool (d := 11) rfl (decide_eq_true (show (i : Int) < (hs.length : Int) by omega))
  skip; (repeat (with_reducible refine wp_seq ?_))
  refine cw_t fr rfl ?_
  refine wp_skip ?_
  (with_reducible refine then_n ?_)
  skip; (repeat (with_reducible refine wp_seq ?_))
  refine wp_block ?_
  skip; (repeat (with_reducible refine wp_seq ?_)); refine wp_region_lit ?_
  refine wl_run orcId_ok 3 rfl fr fun a fr => ?_
  refine wl_ldf orcId_ok (Sat.stAt S 0 rfl hj) fr rfl rfl rfl rfl rfl rfl rfl fun a fr => ?_
  refine wl_run orcId_ok 1 rfl fr fun a fr => ?_
  obtain ⟨⟨g, hA⟩, hr, hv⟩ := held_at S 1 rfl hlt
  obtain ⟨h, hhd⟩ : ∃ h, hs[i] = h := ⟨_, rfl⟩
  have hgn := hg hs[i] (List.getElem_mem hlt)
  rw [hhd] at hr hv hgn
  refine wl_ldv orcId_ok (z := 3) (i := (i : Int)) (cs := hdV h) (fun ad he => by obtain ⟨g, h1, h2⟩ := hr ad he; exact ⟨g, h1, h2⟩) (by rw [hA]; simp) hv fr rfl rfl rfl rfl rfl rfl rfl rfl rfl rfl rfl rfl rfl rfl rfl rfl ⟨by omega, by omega⟩ fun a fr => ?_
  refine wl_allocg fr rfl rfl rfl rfl zeroId rfl S ?_
  intro w2 bh S a fr
  refine wl_stg orcId_ok (cs := [.slice none 0 0, .slice none 0 0, .int .i64 0]) (vs := hdV h) fr rfl rfl rfl rfl rfl rfl rfl (by rw [List.all_eq_true]; intro v hm; have := hv v hm; unfold hdV Hd.lv at hm; rw [hgn] at hm; simp only [List.mem_cons, List.not_mem_nil, or_false] at hm; rcases hm with rfl | rfl | rfl <;> simp_all [Value.oneCell', vok, vokC]) S ?_
  intro w3 S
  refine wpList_nil ?_; (repeat (with_reducible refine then_n ?_))
  skip; (repeat (with_reducible refine wp_seq ?_)); refine wp_region_lit ?_
  refine wl_run orcId_ok 1 rfl fr fun a fr => ?_
  refine wpList_nil ?_; (repeat (with_reducible refine then_n ?_))
  have hpl : i < (partL fillId i hs).length := by rw [partL_len]; exact hlt
  have S := hds_out [stA 249 bh (hdV h), stA 44 b cells, rvA 249 3 A c hs.length (hdsV hs)] S hpl
  rw [partL_get' hlt hpl, hhd] at S
  obtain ⟨A1, c1, l1, g1, k1⟩ := h
  simp only at hgn
  subst hgn
  have S : Sat w0 w3 (ownA .u32 86 A1 c1 (List.replicate 0 (mkId k1) ++ l1.drop 0) :: stA 249 bh [.slice A1 l1.length c1, .slice none 0 0, .int .i64 k1] :: stA 44 b cells :: rvA 249 3 A c hs.length (hdsV hs) :: (((partL fillId i hs).eraseIdx i).map (hdA .u32 86) ++ R)) := S
  have hk1 : (Lit.int .i64 k1).wf = true := hv (.int .i64 k1) (by simp [hdV])
  have hl1 := S.own.2
  simp only [List.replicate_zero, List.nil_append, List.drop_zero] at hl1
  skip; (repeat (with_reducible refine wp_seq ?_))
  refine wp_block ?_
  refine cw_loop (fun q a w1 => ∃ j : Nat, j + q = l1.length + 1 ∧ j ≤ l1.length ∧ Fr 35 a [(0, .pointer (some ⟨b, 0, none⟩)), (2, .int .i64 (i : Int)), (3, .pointer (some ⟨bh, 0, none⟩)), (4, .int .i64 (j : Int))] ∧ Sat w0 w1 (ownA .u32 86 A1 c1 (List.replicate j (mkId k1) ++ l1.drop j) :: stA 249 bh [.slice A1 l1.length c1, .slice none 0 0, .int .i64 k1] :: stA 44 b cells :: rvA 249 3 A c hs.length (hdsV hs) :: (((partL fillId i hs).eraseIdx i).map (hdA .u32 86) ++ R))) (l1.length + 1)
    ⟨0, by omega, by omega, fr.sub ⟨rfl, rfl, rfl, rfl, trivial⟩, S⟩ ?_ ?_
  · rintro a w1 ⟨j, h, h', -⟩
    omega
  clear fr S hr hv
  rintro q2 a w4 ⟨j, hj1, hj2, fr, S⟩
  skip; (repeat (with_reducible refine wp_seq ?_)); refine wp_region_lit ?_
  refine wl_run orcId_ok 2 rfl fr fun a fr => ?_
  refine wl_ldf orcId_ok (Sat.stAt S 1 rfl (j := 0) rfl) fr rfl rfl rfl rfl rfl rfl rfl fun a fr => ?_
  refine wl_run orcId_ok 2 rfl fr fun a fr => ?_
  refine wpList_nil ?_; (repeat (with_reducible refine then_n ?_))
  by_cases hlj : j < l1.length
  rotate_left
  · have fr := fr.bool (d := 25) rfl (decide_eq_false (show ¬ (j : Int) < (l1.length : Int) by omega))
    skip; (repeat (with_reducible refine wp_seq ?_))
    refine cw_f fr rfl ?_
    refine wp_exit ?_
    skip; (repeat (first | (with_reducible refine then_e ?_) | (with_reducible refine ng_e ?_) | (with_reducible refine blk_e (by decide) ?_))); (with_reducible refine blk_y ?_); (repeat (with_reducible refine then_n ?_))
    (repeat (first | (with_reducible refine then_n ?_) | (with_reducible refine blk_n ?_) | (with_reducible refine ng_n ?_)))
    skip; (repeat (with_reducible refine wp_seq ?_)); refine wp_region_lit ?_
    refine wl_run orcId_ok 3 rfl fr fun a fr => ?_
    refine wpList_nil ?_; (repeat (with_reducible refine then_n ?_))
    have fr := fr.spell (d := 2) rfl (congrArg (Value.int .i64) (i64_next hlt (by omega)))
    have e : j = l1.length := by omega
    subst e
    rw [List.drop_length, List.append_nil] at S
    have S := S.frontAt 1 rfl
    have S := S.tl
    have S := hds_in (h' := fillId ⟨A1, c1, l1, none, k1⟩) [stA 44 b cells, rvA 249 3 A c hs.length (hdsV hs)] S hpl
    rw [← hhd, partL_set hlt] at S
    exact ⟨i + 1, by omega, by omega, fr.sub ⟨rfl, rfl, trivial⟩, S⟩
  have fr := fr.bool (d := 25) rfl (decide_eq_true (show (j : Int) < (l1.length : Int) by omega))
  skip; (repeat (with_reducible refine wp_seq ?_))
  refine cw_t fr rfl ?_
  refine wp_skip ?_
  (with_reducible refine then_n ?_)
  skip; (repeat (with_reducible refine wp_seq ?_))
  refine wp_block ?_
  skip; (repeat (with_reducible refine wp_seq ?_))
  refine wp_region_sl [.one (0, true, some 28), .one (1, true, some 29), .one (2, true, some 30), .one (3, true, some 31), .one (4, true, some 32), .one (5, false, some 33), .one (6, true, some 34), .one (7, false, none)]
                [.one ⟨true, some 28, (Go.Op.fieldAddr 249 (Go.Operand.tmp 3) 0), 0, none⟩,
                .one ⟨true, some 29, (Go.Op.load 91 (Go.Operand.tmp 28)), 91, none⟩,
                .one ⟨true, some 30, (Go.Op.move (Go.Operand.tmp 4)), 3, none⟩,
                .one ⟨true, some 31, (Go.Op.fieldAddr 249 (Go.Operand.tmp 3) 2), 0, none⟩,
                .one ⟨true, some 32, (Go.Op.load 3 (Go.Operand.tmp 31)), 3, none⟩,
                .one ⟨false, some 33, (Go.Op.call { callee := (Go.Callee.value (Go.Operand.func 186)), args := #[(Go.Operand.tmp 32)], argTypes := #[3] }), 86, none⟩,
                .one ⟨true, some 34, (Go.Op.indexAddr 91 (Go.Operand.tmp 29) (Go.Operand.tmp 30)), 0, none⟩,
                .one ⟨false, none, (Go.Op.store 86 (Go.Operand.tmp 34) (Go.Operand.tmp 33)), 0, none⟩]
                (fun w' => Sat w0 w' [stA 249 bh [.slice A1 l1.length c1, .slice none 0 0, .int .i64 k1]]) rfl (by kernel_rfl) (by kernel_rfl) ?_ ?_
  · exact (S.drew.frontAt 1 rfl).firsts [_]
  have S := S.drew
  refine sl_run orcId_ok 1 rfl fr fun a fr => ?_
  refine sl_ldf orcId_ok (fun _ S => Sat.stAt S 0 rfl (j := 0) rfl) fr rfl rfl rfl rfl rfl rfl rfl rfl ((S.frontAt 1 rfl).firsts [_]) fun a fr => ?_
  refine sl_run orcId_ok 2 rfl fr fun a fr => ?_
  refine sl_ldf orcId_ok (fun _ S => Sat.stAt S 0 rfl (j := 2) rfl) fr rfl rfl rfl rfl rfl rfl rfl rfl ((S.frontAt 1 rfl).firsts [_]) fun a fr => ?_
  refine sl_call fr rfl rfl rfl rfl rfl enMkId (markId_call hk1 S) ?_
  rintro _ w5 ⟨rfl, S⟩
  refine ⟨_, rfl, mkId_wf _, (S.frontAt 1 rfl).firsts [_], fun a fr => ?_⟩
  have hlen : (List.replicate j (mkId k1) ++ l1.drop j).length = l1.length := by simp; omega
  refine sl_pe orcId_ok (l := List.replicate j (mkId k1) ++ l1.drop j) (i := (j : Int)) S.own.1 fr rfl rfl rfl rfl rfl rfl rfl rfl rfl hlen.symm ⟨by omega, by omega⟩ fun a fr => ?_
  refine sl_ste orcId_ok (i := (j : Int)) fr rfl rfl rfl rfl rfl rfl rfl S ⟨by omega, by omega⟩ ?_
  intro w6 S
  refine ⟨(S.frontAt 1 rfl).firsts [_], ?_⟩
  refine sl_end ?_
  (repeat (first | (with_reducible refine then_n ?_) | (with_reducible refine blk_n ?_) | (with_reducible refine ng_n ?_)))
  skip; (repeat (with_reducible refine wp_seq ?_)); refine wp_region_lit ?_
  refine wl_run orcId_ok 3 rfl fr fun a fr => ?_
  refine wpList_nil ?_; (repeat (with_reducible refine then_n ?_))
  have fr := fr.spell (d := 4) rfl (congrArg (Value.int .i64) (i64_next hlj (by unfold maxLen at hl1; omega)))
  have e : (List.replicate j (mkId k1) ++ l1.drop j).set (j : Int).toNat (mkId k1) = List.replicate (j + 1) (mkId k1) ++ l1.drop (j + 1) := by
    rw [Int.toNat_natCast, List.set_append_right _ _ (by simp), List.length_replicate, Nat.sub_self, List.replicate_succ', List.append_assoc]
    congr 1
    rw [List.drop_eq_getElem_cons hlj, List.set_cons_zero]; rfl
  rw [e] at S
  exact ⟨j + 1, by omega, by omega, fr.sub ⟨rfl, rfl, rfl, rfl, trivial⟩, S⟩
def GrewId (i : Nat) (hs hs' : List Hd) : Prop := hs'.length = hs.length ∧ ∀ j (hj : j < hs.length), if j < i then ∃ A c, hs'[j]? = some { hs[j] with g := some (A, c, hs[j].l ++ List.replicate 40 (mkId hs[j].k)) } else hs'[j]? = some hs[j]
set_option maxRecDepth 100000 in
set_option maxHeartbeats 1000000 in
theorem growId_call (hg : ∀ h ∈ hs, h.g = none) (hb : ∀ h ∈ hs, h.l.length ≤ 100000000000) (hj : cells[2]? = some (.slice A hs.length c)) (hh : hs.length ≤ 1000000000)
    (S : Sat w0 w (stA 44 b cells :: rvA 249 3 A c hs.length (hdsV hs) :: (hs.map (hdA .u32 86) ++ R))) :
    Calls Tryz.prog 97 #[.pointer (some ⟨b, 0, none⟩)] w fun e w' => ∃ hs', GrewId hs.length hs hs' ∧ e = .returned (.tuple #[]) ∧ Sat w0 w' (stA 44 b cells :: rvA 249 3 A c hs'.length (hdsV hs') :: (hs'.map (hdA .u32 86) ++ R)) := by
  refine calls_start (N := 42) [.pointer (some ⟨b, 0, none⟩)] Tryz.func97 rfl rfl rfl (vok_c rfl rfl) fun a fr => ?_
  skip; (repeat (with_reducible refine wp_seq ?_)); refine wp_region_lit ?_
  refine wl_run orcId_ok 1 rfl fr fun a fr => ?_
  refine wpList_nil ?_; (repeat (with_reducible refine then_n ?_))
  skip; (repeat (with_reducible refine wp_seq ?_))
  refine wp_block ?_
  refine cw_loop (fun q a w1 => ∃ (i : Nat) (hs' : List Hd), i + q = hs.length + 1 ∧ i ≤ hs.length ∧ GrewId i hs hs' ∧ Fr 42 a [(0, .pointer (some ⟨b, 0, none⟩)), (2, .int .i64 (i : Int))] ∧ Sat w0 w1 (stA 44 b cells :: rvA 249 3 A c hs'.length (hdsV hs') :: (hs'.map (hdA .u32 86) ++ R))) (hs.length + 1)
    ⟨0, hs, by omega, by omega, ⟨rfl, fun j hj => by rw [if_neg (by omega)]; exact List.getElem?_eq_getElem hj⟩, fr.sub ⟨rfl, rfl, trivial⟩, S⟩ ?_ ?_
  · rintro a w1 ⟨i, hs', h, h', -⟩
    omega
  clear fr S
  rintro q a w1 ⟨i, hs', hi, hi', hgr, fr, S⟩
  obtain ⟨hgl, hgr⟩ := hgr
  skip; (repeat (with_reducible refine wp_seq ?_)); refine wp_region_lit ?_
  refine wl_run orcId_ok 4 rfl fr fun a fr => ?_
  refine wl_ldf orcId_ok (Sat.stAt S 0 rfl hj) fr rfl rfl rfl rfl rfl rfl rfl fun a fr => ?_
  refine wl_run orcId_ok 2 rfl fr fun a fr => ?_
  refine wpList_nil ?_; (repeat (with_reducible refine then_n ?_))
  by_cases hlt : i < hs.length
  rotate_left
  · have fr := fr.bool (d := 12) rfl (decide_eq_false (show ¬ (i : Int) < (hs.length : Int) by omega))
    skip; (repeat (with_reducible refine wp_seq ?_))
    refine cw_f fr rfl ?_
    refine wp_exit ?_
    skip; (repeat (first | (with_reducible refine then_e ?_) | (with_reducible refine ng_e ?_) | (with_reducible refine blk_e (by decide) ?_))); (with_reducible refine blk_y ?_); (repeat (with_reducible refine then_n ?_))
    refine end_ret ?_
    refine ret0 fr rfl ?_
    have e : i = hs.length := by omega
    subst e
    exact ⟨hs', ⟨hgl, hgr⟩, rfl, S⟩
  have fr := fr.bool (d := 12) rfl (decide_eq_true (show (i : Int) < (hs.length : Int) by omega))
  skip; (repeat (with_reducible refine wp_seq ?_))
  refine cw_t fr rfl ?_
  refine wp_skip ?_
  (with_reducible refine then_n ?_)
  skip; (repeat (with_reducible refine wp_seq ?_))
  refine wp_block ?_
  have hlt' : i < hs'.length := by omega
  obtain ⟨⟨g, hA⟩, hr, hv⟩ := held_at S 1 rfl hlt'
  have hcur := hgr i hlt
  rw [if_neg (by omega), List.getElem?_eq_getElem hlt'] at hcur
  injection hcur with hcur
  obtain ⟨h, hhd⟩ : ∃ h, hs[i] = h := ⟨_, rfl⟩
  have hgn := hg hs[i] (List.getElem_mem hlt)
  have hbn := hb hs[i] (List.getElem_mem hlt)
  rw [hcur] at hr hv
  rw [hhd] at hr hv hgn hbn
  skip; (repeat (with_reducible refine wp_seq ?_)); refine wp_region_lit ?_
  refine wl_run orcId_ok 3 rfl fr fun a fr => ?_
  refine wl_ldf orcId_ok (Sat.stAt S 0 rfl hj) fr rfl rfl rfl rfl rfl rfl rfl fun a fr => ?_
  refine wl_run orcId_ok 1 rfl fr fun a fr => ?_
  refine wl_ldv orcId_ok (z := 3) (i := (i : Int)) (cs := hdV h) (fun ad he => by obtain ⟨g, h1, h2⟩ := hr ad he; exact ⟨g, h1, h2⟩) (by rw [hA]; simp) hv fr rfl rfl rfl rfl rfl rfl rfl rfl rfl rfl rfl rfl rfl rfl rfl rfl ⟨by omega, by omega⟩ fun a fr => ?_
  refine wl_allocg fr rfl rfl rfl rfl zeroId rfl S ?_
  intro w2 bh S a fr
  refine wl_stg orcId_ok (cs := [.slice none 0 0, .slice none 0 0, .int .i64 0]) (vs := hdV h) fr rfl rfl rfl rfl rfl rfl rfl (by rw [List.all_eq_true]; intro v hm; have := hv v hm; unfold hdV Hd.lv at hm; rw [hgn] at hm; simp only [List.mem_cons, List.not_mem_nil, or_false] at hm; rcases hm with rfl | rfl | rfl <;> simp_all [Value.oneCell', vok, vokC]) S ?_
  intro w3 S
  refine wpList_nil ?_; (repeat (with_reducible refine then_n ?_))
  have S := hds_out [stA 249 bh (hdV h), stA 44 b cells, rvA 249 3 A c hs'.length (hdsV hs')] S hlt'
  rw [hcur, hhd] at S
  obtain ⟨A1, c1, l1, g1, k1⟩ := h
  simp only at hgn hbn
  subst hgn
  have S : Sat w0 w3 (ownA .u32 86 A1 c1 l1 :: stA 249 bh [.slice A1 l1.length c1, .slice none 0 0, .int .i64 k1] :: stA 44 b cells :: rvA 249 3 A c hs'.length (hdsV hs') :: ((hs'.eraseIdx i).map (hdA .u32 86) ++ R)) := S
  have hk1 : (Lit.int .i64 k1).wf = true := hv (.int .i64 k1) (by simp [hdV])
  have S := gw_start (rv_of_own S)
  skip; (repeat (with_reducible refine wp_seq ?_)); refine wp_region_lit ?_
  refine wl_run orcId_ok 1 rfl fr fun a fr => ?_
  refine wl_ldf orcId_ok (Sat.stAt S 1 rfl (j := 0) rfl) fr rfl rfl rfl rfl rfl rfl rfl fun a fr => ?_
  refine wl_run orcId_ok 1 rfl fr fun a fr => ?_
  refine wpList_nil ?_; (repeat (with_reducible refine then_n ?_))
  skip; (repeat (with_reducible refine wp_seq ?_)); refine wp_region_lit ?_
  refine wl_run orcId_ok 1 rfl fr fun a fr => ?_
  refine wpList_nil ?_; (repeat (with_reducible refine then_n ?_))
  have S : Sat w0 w3 (gwA 86 1 A1 (l1.map (Value.int .u32)) A1 c1 (l1.length + 0) ((l1 ++ List.replicate 0 (mkId k1)).map (Value.int .u32)) :: stA 249 bh [.slice A1 l1.length c1, .slice none 0 0, .int .i64 k1] :: stA 44 b cells :: rvA 249 3 A c hs'.length (hdsV hs') :: ((hs'.eraseIdx i).map (hdA .u32 86) ++ R)) := by
    rw [List.replicate_zero, List.append_nil]; exact S
  skip; (repeat (with_reducible refine wp_seq ?_))
  refine wp_block ?_
  refine cw_loop (fun q a w1 => ∃ (j : Nat) (A2 : Option Addr) (c2 : Nat), j + q = 41 ∧ j ≤ 40 ∧ Fr 42 a [(0, .pointer (some ⟨b, 0, none⟩)), (2, .int .i64 (i : Int)), (3, .pointer (some ⟨bh, 0, none⟩)), (4, .slice A2 (l1.length + j) c2), (5, .int .i64 (j : Int))] ∧ Sat w0 w1 (gwA 86 1 A1 (l1.map (Value.int .u32)) A2 c2 (l1.length + j) ((l1 ++ List.replicate j (mkId k1)).map (Value.int .u32)) :: stA 249 bh [.slice A1 l1.length c1, .slice none 0 0, .int .i64 k1] :: stA 44 b cells :: rvA 249 3 A c hs'.length (hdsV hs') :: ((hs'.eraseIdx i).map (hdA .u32 86) ++ R))) 41
    ⟨0, A1, c1, by omega, by omega, fr.sub ⟨rfl, rfl, rfl, rfl, rfl, trivial⟩, S⟩ ?_ ?_
  · rintro a w1 ⟨j, A2, c2, h, h', -⟩
    omega
  clear fr S hr hv
  rintro q2 a w4 ⟨j, A2, c2, hj1, hj2, fr, S⟩
  skip; (repeat (with_reducible refine wp_seq ?_)); refine wp_region_lit ?_
  refine wl_run orcId_ok 2 rfl fr fun a fr => ?_
  refine wpList_nil ?_; (repeat (with_reducible refine then_n ?_))
  by_cases hlj : j < 40
  rotate_left
  · have fr := fr.bool (d := 25) rfl (decide_eq_false (show ¬ (j : Int) < (40 : Int) by omega))
    skip; (repeat (with_reducible refine wp_seq ?_))
    refine cw_f fr rfl ?_
    refine wp_exit ?_
    skip; (repeat (first | (with_reducible refine then_e ?_) | (with_reducible refine ng_e ?_) | (with_reducible refine blk_e (by decide) ?_))); (with_reducible refine blk_y ?_); (repeat (with_reducible refine then_n ?_))
    skip; (repeat (with_reducible refine wp_seq ?_)); refine wp_region_lit ?_
    refine wl_run orcId_ok 3 rfl fr fun a fr => ?_
    refine wl_ldf orcId_ok (Sat.stAt S 2 rfl hj) fr rfl rfl rfl rfl rfl rfl rfl fun a fr => ?_
    refine wl_run orcId_ok 2 rfl fr fun a fr => ?_
    subst hA
    refine wl_val fr rfl rfl rfl (indexAddr_run orcId_ok fr rfl rfl rfl rfl rfl (Int.natCast_nonneg _) (show (i : Int) < ((hs.length : Nat) : Int) by omega) _) rfl fun a fr => ?_
    refine wl_run orcId_ok 1 rfl fr fun a fr => ?_
    have S := S.frontAt 3 rfl
    have hv2 : vok (.slice A2 (l1.length + j) c2) = true := fr.vok (d := 39) rfl
    have fr := fr.spell (d := 41) rfl (show Value.pointer (some (((⟨g, 0, none⟩ : Addr).add ((i : Int).toNat * 3)).add 1)) = Value.pointer (some ⟨g, (i : Int).toNat * 3 + 1, none⟩) by rw [add_add, addr0])
    refine wl_strv (j := (i : Int).toNat * 3 + 1) (n := hs'.length) (z := 3) orcId_ok fr rfl rfl rfl rfl rfl rfl rfl rfl hv2 S (by rw [Int.toNat_natCast]; omega) ?_
    intro w5 S
    refine wpList_nil ?_; (repeat (with_reducible refine then_n ?_))
    (repeat (first | (with_reducible refine then_n ?_) | (with_reducible refine blk_n ?_) | (with_reducible refine ng_n ?_)))
    skip; (repeat (with_reducible refine wp_seq ?_)); refine wp_region_lit ?_
    refine wl_run orcId_ok 3 rfl fr fun a fr => ?_
    refine wpList_nil ?_; (repeat (with_reducible refine then_n ?_))
    have fr := fr.spell (d := 2) rfl (congrArg (Value.int .i64) (i64_next hlt (by omega)))
    have e : j = 40 := by omega
    subst e
    have e2 : (i : Int).toNat * 3 + 1 = i * 3 + 1 := by rw [Int.toNat_natCast]
    have hll : (l1 ++ List.replicate 40 (mkId k1)).length = l1.length + 40 := by simp
    rw [e2, hdsV_set hs' i ⟨A1, c1, l1, some (A2, c2, l1 ++ List.replicate 40 (mkId k1)), k1⟩ _ hlt' (by rw [hcur, hhd]; simp [hdV, Hd.lv])] at S
    rw [← hll] at S
    have S := (S.frontAt 2 rfl).tl
    have S := (S.frontAt 2 rfl).frontAt 2 rfl
    have S := hds_in (k := .u32) (e := 86) (h' := ⟨A1, c1, l1, some (A2, c2, l1 ++ List.replicate 40 (mkId k1)), k1⟩) [stA 44 b cells, rvA 249 3 (some ⟨g, 0, none⟩) c hs'.length (hdsV (hs'.set i ⟨A1, c1, l1, some (A2, c2, l1 ++ List.replicate 40 (mkId k1)), k1⟩))] S hlt'
    refine ⟨i + 1, hs'.set i ⟨A1, c1, l1, some (A2, c2, l1 ++ List.replicate 40 (mkId k1)), k1⟩, by omega, by omega, ⟨by rw [List.length_set]; exact hgl, fun p hp => ?_⟩, fr.sub ⟨rfl, rfl, trivial⟩, by rw [List.length_set]; exact S⟩
    by_cases hpi : p = i
    · subst hpi
      rw [if_pos (by omega), List.getElem?_set_self hlt', hhd]
      exact ⟨A2, c2, rfl⟩
    · have := hgr p hp
      rw [List.getElem?_set_ne (fun e => hpi e.symm)]
      by_cases hpl : p < i
      · rw [if_pos hpl] at this; rw [if_pos (by omega)]; exact this
      · rw [if_neg hpl] at this; rw [if_neg (by omega)]; exact this
  have fr := fr.bool (d := 25) rfl (decide_eq_true (show (j : Int) < (40 : Int) by omega))
  skip; (repeat (with_reducible refine wp_seq ?_))
  refine cw_t fr rfl ?_
  refine wp_skip ?_
  (with_reducible refine then_n ?_)
  skip; (repeat (with_reducible refine wp_seq ?_))
  refine wp_block ?_
  skip; (repeat (with_reducible refine wp_seq ?_)); refine wp_region_lit ?_
  refine wl_run orcId_ok 2 rfl fr fun a fr => ?_
  refine wl_ldf orcId_ok (Sat.stAt S 1 rfl (j := 2) rfl) fr rfl rfl rfl rfl rfl rfl rfl fun a fr => ?_
  refine wl_call fr rfl rfl rfl rfl enMkId (markId_call hk1 S) ?_
  rintro _ w5 ⟨rfl, S⟩
  refine ⟨_, rfl, mkId_wf _, fun a fr => ?_⟩
  refine wl_lit (xs := [mkId k1]) orcId_ok rowId fr rfl rfl rfl rfl ⟨rfl, rfl, trivial⟩ rfl rfl S ?_
  intro w6 A3 c3 S a fr
  refine wl_gwnum rowId fr rfl rfl rfl rfl rfl rfl (by simp) (by omega) S ?_
  intro w7 A4 c4 S a fr
  refine wl_run orcId_ok 1 rfl fr fun a fr => ?_
  refine wpList_nil ?_; (repeat (with_reducible refine then_n ?_))
  (repeat (first | (with_reducible refine then_n ?_) | (with_reducible refine blk_n ?_) | (with_reducible refine ng_n ?_)))
  skip; (repeat (with_reducible refine wp_seq ?_)); refine wp_region_lit ?_
  refine wl_run orcId_ok 3 rfl fr fun a fr => ?_
  refine wpList_nil ?_; (repeat (with_reducible refine then_n ?_))
  have fr := fr.spell (d := 5) rfl (congrArg (Value.int .i64) (i64_next hlj (by decide)))
  rw [List.append_assoc, ← List.replicate_succ'] at S
  exact ⟨j + 1, A4, c4, by omega, by omega, fr.sub ⟨rfl, rfl, rfl, rfl, rfl, trivial⟩, S⟩
set_option maxRecDepth 100000 in
set_option maxHeartbeats 1000000 in
theorem lookId_call (hl : ∀ h ∈ hs, (∀ z ∈ h.l, z = mkId h.k) ∧ h.l.length ≤ 100000000000 ∧ ∃ A c, h.g = some (A, c, h.l ++ List.replicate 40 (mkId h.k))) (hj : cells[2]? = some (.slice A hs.length c)) (hh : hs.length ≤ 1000000000)
    (S : Sat w0 w (stA 44 b cells :: rvA 249 3 A c hs.length (hdsV hs) :: (hs.map (hdA .u32 86) ++ R))) :
    Calls Tryz.prog 109 #[.pointer (some ⟨b, 0, none⟩)] w fun e w' => e = .returned (.bool true) ∧ Sat w0 w' (stA 44 b cells :: rvA 249 3 A c hs.length (hdsV hs) :: (hs.map (hdA .u32 86) ++ R)) := by
  refine calls_start (N := 64) [.pointer (some ⟨b, 0, none⟩)] Tryz.func109 rfl rfl rfl (vok_c rfl rfl) fun a fr => ?_
  skip; (repeat (with_reducible refine wp_seq ?_)); refine wp_region_lit ?_
  refine wl_run orcId_ok 1 rfl fr fun a fr => ?_
  refine wpList_nil ?_; (repeat (with_reducible refine then_n ?_))
  skip; (repeat (with_reducible refine wp_seq ?_)); refine wp_region_lit ?_
  refine wl_run orcId_ok 1 rfl fr fun a fr => ?_
  refine wpList_nil ?_; (repeat (with_reducible refine then_n ?_))
  skip; (repeat (with_reducible refine wp_seq ?_))
  refine wp_block ?_
  refine cw_loop (fun q a w1 => ∃ i : Nat, i + q = hs.length + 1 ∧ i ≤ hs.length ∧ Fr 64 a [(0, .pointer (some ⟨b, 0, none⟩)), (3, .int .i64 (i : Int))] ∧ Sat w0 w1 (stA 44 b cells :: rvA 249 3 A c hs.length (hdsV hs) :: (hs.map (hdA .u32 86) ++ R))) (hs.length + 1)
    ⟨0, by omega, by omega, fr.sub ⟨rfl, rfl, trivial⟩, S⟩ ?_ ?_
  · rintro a w1 ⟨i, h, h', -⟩
    omega
  clear fr S
  rintro q a w1 ⟨i, hi, hi', fr, S⟩
  skip; (repeat (with_reducible refine wp_seq ?_)); refine wp_region_lit ?_
  refine wl_run orcId_ok 4 rfl fr fun a fr => ?_
  refine wl_ldf orcId_ok (Sat.stAt S 0 rfl hj) fr rfl rfl rfl rfl rfl rfl rfl fun a fr => ?_
  refine wl_run orcId_ok 2 rfl fr fun a fr => ?_
  refine wpList_nil ?_; (repeat (with_reducible refine then_n ?_))
  by_cases hlt : i < hs.length
  rotate_left
  · have fr := fr.bool (d := 12) rfl (decide_eq_false (show ¬ (i : Int) < (hs.length : Int) by omega))
    skip; (repeat (with_reducible refine wp_seq ?_))
    refine cw_f fr rfl ?_
    refine wp_exit ?_
    skip; (repeat (first | (with_reducible refine then_e ?_) | (with_reducible refine ng_e ?_) | (with_reducible refine blk_e (by decide) ?_))); (with_reducible refine blk_y ?_); (repeat (with_reducible refine then_n ?_))
    skip; (repeat (with_reducible refine wp_seq ?_)); refine wp_region_lit ?_
    refine wl_run orcId_ok 1 rfl fr fun a fr => ?_
    refine wpList_nil ?_; (repeat (with_reducible refine then_n ?_))
    refine wp_ret ?_
    skip; (repeat (first | (with_reducible refine then_r ?_) | (with_reducible refine blk_r ?_) | (with_reducible refine ng_r ?_)))
    refine ret1 fr rfl rfl ?_
    exact ⟨rfl, S⟩
  have fr := fr.bool (d := 12) rfl (decide_eq_true (show (i : Int) < (hs.length : Int) by omega))
  skip; (repeat (with_reducible refine wp_seq ?_))
  refine cw_t fr rfl ?_
  refine wp_skip ?_
  (with_reducible refine then_n ?_)
  skip; (repeat (with_reducible refine wp_seq ?_))
  refine wp_block ?_
  obtain ⟨⟨g, hA⟩, hr, hv⟩ := held_at S 1 rfl hlt
  obtain ⟨h, hhd⟩ : ∃ h, hs[i] = h := ⟨_, rfl⟩
  obtain ⟨hz, hb, A2, c2, hgn⟩ := hl hs[i] (List.getElem_mem hlt)
  rw [hhd] at hr hv hz hb hgn
  skip; (repeat (with_reducible refine wp_seq ?_)); refine wp_region_lit ?_
  refine wl_run orcId_ok 3 rfl fr fun a fr => ?_
  refine wl_ldf orcId_ok (Sat.stAt S 0 rfl hj) fr rfl rfl rfl rfl rfl rfl rfl fun a fr => ?_
  refine wl_run orcId_ok 1 rfl fr fun a fr => ?_
  refine wl_ldv orcId_ok (z := 3) (i := (i : Int)) (cs := hdV h) (fun ad he => by obtain ⟨g, h1, h2⟩ := hr ad he; exact ⟨g, h1, h2⟩) (by rw [hA]; simp) hv fr rfl rfl rfl rfl rfl rfl rfl rfl rfl rfl rfl rfl rfl rfl rfl rfl ⟨by omega, by omega⟩ fun a fr => ?_
  refine wl_allocg fr rfl rfl rfl rfl zeroId rfl S ?_
  intro w2 bh S a fr
  refine wl_stg orcId_ok (cs := [.slice none 0 0, .slice none 0 0, .int .i64 0]) (vs := hdV h) fr rfl rfl rfl rfl rfl rfl rfl (by rw [List.all_eq_true]; intro v hm; have := hv v hm; unfold hdV Hd.lv at hm; rw [hgn] at hm; simp only [List.mem_cons, List.not_mem_nil, or_false] at hm; rcases hm with rfl | rfl | rfl <;> simp_all [Value.oneCell', vok, vokC, hdV, Hd.lv]) S ?_
  intro w3 S
  refine wpList_nil ?_; (repeat (with_reducible refine then_n ?_))
  have S := hds_out [stA 249 bh (hdV h), stA 44 b cells, rvA 249 3 A c hs.length (hdsV hs)] S hlt
  rw [hhd] at S
  obtain ⟨A1, c1, l1, g1, k1⟩ := h
  simp only at hgn hz hb
  subst hgn
  have hk1 : (Lit.int .i64 k1).wf = true := hv (.int .i64 k1) (by simp [hdV])
  obtain ⟨ys, hys⟩ : ∃ ys, l1 ++ List.replicate 40 (mkId k1) = ys := ⟨_, rfl⟩
  have hyl : ys.length = l1.length + 40 := by rw [← hys]; simp
  have hyz : ∀ z ∈ ys, z = mkId k1 := fun z hm => by
    rw [← hys] at hm
    rcases List.mem_append.1 hm with hm | hm
    · exact hz z hm
    · exact List.eq_of_mem_replicate hm
  rw [hys] at S hhd
  have S : Sat w0 w3 (gwA 86 1 A1 (l1.map (Value.int .u32)) A2 c2 ys.length (ys.map (Value.int .u32)) :: stA 249 bh [.slice A1 l1.length c1, .slice A2 ys.length c2, .int .i64 k1] :: stA 44 b cells :: rvA 249 3 A c hs.length (hdsV hs) :: ((hs.eraseIdx i).map (hdA .u32 86) ++ R)) := S
  clear hv hr
  skip; (repeat (with_reducible refine wp_seq ?_)); refine wp_region_lit ?_
  refine wl_run orcId_ok 1 rfl fr fun a fr => ?_
  refine wl_ldf orcId_ok (Sat.stAt S 1 rfl (j := 1) rfl) fr rfl rfl rfl rfl rfl rfl rfl fun a fr => ?_
  refine wl_run orcId_ok 2 rfl fr fun a fr => ?_
  refine wl_ldf orcId_ok (Sat.stAt S 1 rfl (j := 0) rfl) fr rfl rfl rfl rfl rfl rfl rfl fun a fr => ?_
  refine wl_run orcId_ok 3 rfl fr fun a fr => ?_
  refine wpList_nil ?_; (repeat (with_reducible refine then_n ?_))
  have fr := fr.bool (d := 29) rfl (show ((ys.length : Int) != IntKind.wrap .i64 ((l1.length : Int) + 40)) = false by
    rw [show IntKind.wrap .i64 ((l1.length : Int) + 40) = (l1.length : Int) + 40 from IntWalk.i64_in _ ⟨by omega, by omega⟩, hyl]; simp)
  skip; (repeat (with_reducible refine wp_seq ?_))
  refine cw_f fr rfl ?_
  refine wp_skip ?_
  (with_reducible refine then_n ?_)
  skip; (repeat (with_reducible refine wp_seq ?_)); refine wp_region_lit ?_
  refine wl_run orcId_ok 1 rfl fr fun a fr => ?_
  refine wpList_nil ?_; (repeat (with_reducible refine then_n ?_))
  skip; (repeat (with_reducible refine wp_seq ?_))
  refine wp_block ?_
  refine cw_loop (fun q a w1 => ∃ j : Nat, j + q = ys.length + 1 ∧ j ≤ ys.length ∧ Fr 64 a [(0, .pointer (some ⟨b, 0, none⟩)), (3, .int .i64 (i : Int)), (4, .pointer (some ⟨bh, 0, none⟩)), (5, .int .i64 (j : Int))] ∧ Sat w0 w1 (gwA 86 1 A1 (l1.map (Value.int .u32)) A2 c2 ys.length (ys.map (Value.int .u32)) :: stA 249 bh [.slice A1 l1.length c1, .slice A2 ys.length c2, .int .i64 k1] :: stA 44 b cells :: rvA 249 3 A c hs.length (hdsV hs) :: ((hs.eraseIdx i).map (hdA .u32 86) ++ R))) (ys.length + 1)
    ⟨0, by omega, by omega, fr.sub ⟨rfl, rfl, rfl, rfl, trivial⟩, S⟩ ?_ ?_
  · rintro a w1 ⟨j, h, h', -⟩
    omega
  clear fr S
  rintro q2 a w4 ⟨j, hj1, hj2, fr, S⟩
  skip; (repeat (with_reducible refine wp_seq ?_)); refine wp_region_lit ?_
  refine wl_run orcId_ok 2 rfl fr fun a fr => ?_
  refine wl_ldf orcId_ok (Sat.stAt S 1 rfl (j := 1) rfl) fr rfl rfl rfl rfl rfl rfl rfl fun a fr => ?_
  refine wl_run orcId_ok 2 rfl fr fun a fr => ?_
  refine wpList_nil ?_; (repeat (with_reducible refine then_n ?_))
  by_cases hlj : j < ys.length
  rotate_left
  · have fr := fr.bool (d := 34) rfl (decide_eq_false (show ¬ (j : Int) < (ys.length : Int) by omega))
    skip; (repeat (with_reducible refine wp_seq ?_))
    refine cw_f fr rfl ?_
    refine wp_exit ?_
    skip; (repeat (first | (with_reducible refine then_e ?_) | (with_reducible refine ng_e ?_) | (with_reducible refine blk_e (by decide) ?_))); (with_reducible refine blk_y ?_); (repeat (with_reducible refine then_n ?_))
    (repeat (first | (with_reducible refine then_n ?_) | (with_reducible refine blk_n ?_) | (with_reducible refine ng_n ?_)))
    skip; (repeat (with_reducible refine wp_seq ?_)); refine wp_region_lit ?_
    refine wl_run orcId_ok 3 rfl fr fun a fr => ?_
    refine wpList_nil ?_; (repeat (with_reducible refine then_n ?_))
    have fr := fr.spell (d := 3) rfl (congrArg (Value.int .i64) (i64_next hlt (by omega)))
    have S := (S.frontAt 1 rfl).tl
    have S := hds_in (k := .u32) (e := 86) (h' := ⟨A1, c1, l1, some (A2, c2, ys), k1⟩) [stA 44 b cells, rvA 249 3 A c hs.length (hdsV hs)] S hlt
    rw [← hhd, List.set_getElem_self] at S
    exact ⟨i + 1, by omega, by omega, fr.sub ⟨rfl, rfl, trivial⟩, S⟩
  have fr := fr.bool (d := 34) rfl (decide_eq_true (show (j : Int) < (ys.length : Int) by omega))
  skip; (repeat (with_reducible refine wp_seq ?_))
  refine cw_t fr rfl ?_
  refine wp_skip ?_
  (with_reducible refine then_n ?_)
  skip; (repeat (with_reducible refine wp_seq ?_))
  refine wp_block ?_
  skip; (repeat (with_reducible refine wp_seq ?_))
  refine wp_region_sl [.one (0, true, some 37), .one (1, true, some 38), .one (2, true, some 39), .one (3, true, some 40), .one (4, true, some 41), .one (5, true, some 42), .one (6, true, some 43), .one (7, false, some 44), .one (8, true, some 45), .one (9, true, some 46), .one (10, true, some 47), .one (11, true, some 48), .one (12, true, some 49), .one (13, true, some 50), .one (14, true, some 51), .one (15, true, some 52), .one (16, true, some 53), .one (17, true, some 54), .one (18, true, some 55), .one (19, true, some 56), .one (20, true, some 57), .one (21, true, some 58), .one (22, true, some 59), .one (23, false, some 60), .one (24, true, some 61), .one (25, true, some 62), .one (26, true, some 63)]
                [.one ⟨true, some 37, (Go.Op.fieldAddr 249 (Go.Operand.tmp 4) 1), 0, none⟩,
                .one ⟨true, some 38, (Go.Op.load 91 (Go.Operand.tmp 37)), 91, none⟩,
                .one ⟨true, some 39, (Go.Op.move (Go.Operand.tmp 5)), 3, none⟩,
                .one ⟨true, some 40, (Go.Op.indexAddr 91 (Go.Operand.tmp 38) (Go.Operand.tmp 39)), 0, none⟩,
                .one ⟨true, some 41, (Go.Op.load 86 (Go.Operand.tmp 40)), 86, none⟩,
                .one ⟨true, some 42, (Go.Op.fieldAddr 249 (Go.Operand.tmp 4) 2), 0, none⟩,
                .one ⟨true, some 43, (Go.Op.load 3 (Go.Operand.tmp 42)), 3, none⟩,
                .one ⟨false, some 44, (Go.Op.call { callee := (Go.Callee.value (Go.Operand.func 198)), args := #[(Go.Operand.tmp 41), (Go.Operand.tmp 43)], argTypes := #[86, 3] }), 4, none⟩,
                .one ⟨true, some 45, (Go.Op.unOp Go.UnOp.not 4 (Go.Operand.tmp 44)), 4, none⟩,
                .one ⟨true, some 46, (Go.Op.move (Go.Operand.tmp 45)), 4, none⟩,
                .one ⟨true, some 47, (Go.Op.move (Go.Operand.tmp 5)), 3, some (46, false)⟩,
                .one ⟨true, some 48, (Go.Op.fieldAddr 249 (Go.Operand.tmp 4) 0), 0, some (46, false)⟩,
                .one ⟨true, some 49, (Go.Op.load 91 (Go.Operand.tmp 48)), 91, some (46, false)⟩,
                .one ⟨true, some 50, (Go.Op.call { callee := (Go.Callee.builtin Go.Builtin.len), args := #[(Go.Operand.tmp 49)], argTypes := #[91] }), 3, some (46, false)⟩,
                .one ⟨true, some 51, (Go.Op.binOp Go.BinOp.lss 3 (Go.Operand.tmp 47) (Go.Operand.tmp 50) 3), 4, some (46, false)⟩,
                .one ⟨true, some 52, (Go.Op.move (Go.Operand.tmp 51)), 4, some (46, false)⟩,
                .one ⟨true, some 53, (Go.Op.fieldAddr 249 (Go.Operand.tmp 4) 0), 0, some (52, true)⟩,
                .one ⟨true, some 54, (Go.Op.load 91 (Go.Operand.tmp 53)), 91, some (52, true)⟩,
                .one ⟨true, some 55, (Go.Op.move (Go.Operand.tmp 5)), 3, some (52, true)⟩,
                .one ⟨true, some 56, (Go.Op.indexAddr 91 (Go.Operand.tmp 54) (Go.Operand.tmp 55)), 0, some (52, true)⟩,
                .one ⟨true, some 57, (Go.Op.load 86 (Go.Operand.tmp 56)), 86, some (52, true)⟩,
                .one ⟨true, some 58, (Go.Op.fieldAddr 249 (Go.Operand.tmp 4) 2), 0, some (52, true)⟩,
                .one ⟨true, some 59, (Go.Op.load 3 (Go.Operand.tmp 58)), 3, some (52, true)⟩,
                .one ⟨false, some 60, (Go.Op.call { callee := (Go.Callee.value (Go.Operand.func 198)), args := #[(Go.Operand.tmp 57), (Go.Operand.tmp 59)], argTypes := #[86, 3] }), 4, some (52, true)⟩,
                .one ⟨true, some 61, (Go.Op.unOp Go.UnOp.not 4 (Go.Operand.tmp 60)), 4, some (52, true)⟩,
                .one ⟨true, some 62, (Go.Op.pick (Go.Operand.tmp 52) (Go.Operand.tmp 61) (Go.Operand.const (Go.Value.bool false))), 4, some (46, false)⟩,
                .one ⟨true, some 63, (Go.Op.pick (Go.Operand.tmp 46) (Go.Operand.const (Go.Value.bool true)) (Go.Operand.tmp 62)), 4, none⟩]
                (fun w' => Sat w0 w' [gwA 86 1 A1 (l1.map (Value.int .u32)) A2 c2 ys.length (ys.map (Value.int .u32)), stA 249 bh [.slice A1 l1.length c1, .slice A2 ys.length c2, .int .i64 k1]]) rfl (by kernel_rfl) (by kernel_rfl) ?_ ?_
  · exact S.drew.firsts [_, _]
  have S := S.drew
  have hyj : ys.getD j 0 = mkId k1 := by rw [List.getD_eq_getElem?_getD, List.getElem?_eq_getElem hlj]; exact hyz _ (List.getElem_mem hlj)
  refine sl_run orcId_ok 1 rfl fr fun a fr => ?_
  refine sl_ldf orcId_ok (fun _ S => Sat.stAt S 1 rfl (j := 1) rfl) fr rfl rfl rfl rfl rfl rfl rfl rfl (S.firsts [_, _]) fun a fr => ?_
  refine sl_run orcId_ok 1 rfl fr fun a fr => ?_
  refine sl_ld orcId_ok (fun _ S => (gw_reads S 0 rfl).2.1) fr rfl rfl rfl rfl rfl rfl rfl rfl rfl rfl rfl rfl rfl rfl rfl rfl rfl rfl ⟨by omega, by omega⟩ (S.firsts [_, _]) fun a fr => ?_
  refine sl_run orcId_ok 1 rfl fr fun a fr => ?_
  refine sl_ldf orcId_ok (fun _ S => Sat.stAt S 1 rfl (j := 2) rfl) fr rfl rfl rfl rfl rfl rfl rfl rfl (S.firsts [_, _]) fun a fr => ?_
  refine sl_call fr rfl rfl rfl rfl rfl enIsId (isId_call (fr.int (d := 41) rfl) hk1 S) ?_
  rintro _ w5 ⟨rfl, S⟩
  refine ⟨_, rfl, rfl, S.firsts [_, _], fun a fr => ?_⟩
  have fr := fr.bool (d := 44) rfl (show (ys.getD (j : Int).toNat 0 == mkId k1) = true by rw [Int.toNat_natCast, hyj]; simp)
  refine sl_run orcId_ok 4 rfl fr fun a fr => ?_
  refine sl_ldf orcId_ok (fun _ S => Sat.stAt S 1 rfl (j := 0) rfl) fr rfl rfl rfl rfl rfl rfl rfl rfl (S.firsts [_, _]) fun a fr => ?_
  refine sl_run orcId_ok 3 rfl fr fun a fr => ?_
  have hend : ∀ {a : Act} {w5 : World} {L : Env}, Fr 64 a L → L.lookup 0 = some (.pointer (some ⟨b, 0, none⟩)) → L.lookup 3 = some (.int .i64 (i : Int)) → L.lookup 4 = some (.pointer (some ⟨bh, 0, none⟩)) → L.lookup 5 = some (.int .i64 (j : Int)) → L.lookup 63 = some (.bool false) → Sat w0 w5 (gwA 86 1 A1 (l1.map (Value.int .u32)) A2 c2 ys.length (ys.map (Value.int .u32)) :: stA 249 bh [.slice A1 l1.length c1, .slice A2 ys.length c2, .int .i64 k1] :: stA 44 b cells :: rvA 249 3 A c hs.length (hdsV hs) :: ((hs.eraseIdx i).map (hdA .u32 86) ++ R)) →
      Fr 64 a [(0, .pointer (some ⟨b, 0, none⟩)), (3, .int .i64 (i : Int)), (4, .pointer (some ⟨bh, 0, none⟩)), (5, .int .i64 (j : Int)), (63, .bool false)] := fun fr h0 h3 h4 h5 h63 _ => fr.sub ⟨h0, h3, h4, h5, h63, trivial⟩
  by_cases hjl : j < l1.length
  · have fr := fr.bool (d := 52) rfl (decide_eq_true (show (j : Int) < (l1.length : Int) by omega))
    have hlj2 : l1.getD j 0 = mkId k1 := by rw [List.getD_eq_getElem?_getD, List.getElem?_eq_getElem hjl]; exact hz _ (List.getElem_mem hjl)
    refine sl_run orcId_ok 1 rfl fr fun a fr => ?_
    refine sl_ldf orcId_ok (fun _ S => Sat.stAt S 1 rfl (j := 0) rfl) fr rfl rfl rfl rfl rfl rfl rfl rfl (S.firsts [_, _]) fun a fr => ?_
    refine sl_run orcId_ok 1 rfl fr fun a fr => ?_
    refine sl_ld orcId_ok (fun _ S => (gw_reads S 0 rfl).1) fr rfl rfl rfl rfl rfl rfl rfl rfl rfl rfl rfl rfl rfl rfl rfl rfl rfl rfl ⟨by omega, by omega⟩ (S.firsts [_, _]) fun a fr => ?_
    refine sl_run orcId_ok 1 rfl fr fun a fr => ?_
    refine sl_ldf orcId_ok (fun _ S => Sat.stAt S 1 rfl (j := 2) rfl) fr rfl rfl rfl rfl rfl rfl rfl rfl (S.firsts [_, _]) fun a fr => ?_
    refine sl_call fr rfl rfl rfl rfl rfl enIsId (isId_call (fr.int (d := 57) rfl) hk1 S) ?_
    rintro _ w6 ⟨rfl, S⟩
    refine ⟨_, rfl, rfl, S.firsts [_, _], fun a fr => ?_⟩
    have fr := fr.bool (d := 60) rfl (show (l1.getD (j : Int).toNat 0 == mkId k1) = true by rw [Int.toNat_natCast, hlj2]; simp)
    refine sl_run orcId_ok 3 rfl fr fun a fr => ?_
    refine sl_end ?_
    have fr := hend fr rfl rfl rfl rfl rfl S
    (repeat (with_reducible refine then_n ?_))
    skip; (repeat (with_reducible refine wp_seq ?_))
    refine cw_f fr rfl ?_
    refine wp_skip ?_
    (repeat (first | (with_reducible refine then_n ?_) | (with_reducible refine blk_n ?_) | (with_reducible refine ng_n ?_)))
    skip; (repeat (with_reducible refine wp_seq ?_)); refine wp_region_lit ?_
    refine wl_run orcId_ok 3 rfl fr fun a fr => ?_
    refine wpList_nil ?_; (repeat (with_reducible refine then_n ?_))
    have fr := fr.spell (d := 5) rfl (congrArg (Value.int .i64) (i64_next hlj (by omega)))
    exact ⟨j + 1, by omega, by omega, fr.sub ⟨rfl, rfl, rfl, rfl, trivial⟩, S⟩
  · have fr := fr.bool (d := 52) rfl (decide_eq_false (show ¬ (j : Int) < (l1.length : Int) by omega))
    refine sl_run orcId_ok 7 rfl fr fun a fr => ?_
    refine sl_no fr rfl (S.firsts [_, _]) rfl rfl fun a fr => ?_
    refine sl_run orcId_ok 3 rfl fr fun a fr => ?_
    refine sl_end ?_
    have fr := hend fr rfl rfl rfl rfl rfl S
    (repeat (with_reducible refine then_n ?_))
    skip; (repeat (with_reducible refine wp_seq ?_))
    refine cw_f fr rfl ?_
    refine wp_skip ?_
    (repeat (first | (with_reducible refine then_n ?_) | (with_reducible refine blk_n ?_) | (with_reducible refine ng_n ?_)))
    skip; (repeat (with_reducible refine wp_seq ?_)); refine wp_region_lit ?_
    refine wl_run orcId_ok 3 rfl fr fun a fr => ?_
    refine wpList_nil ?_; (repeat (with_reducible refine then_n ?_))
    have fr := fr.spell (d := 5) rfl (congrArg (Value.int .i64) (i64_next hlj (by omega)))
    exact ⟨j + 1, by omega, by omega, fr.sub ⟨rfl, rfl, rfl, rfl, trivial⟩, S⟩
end
end Go.Proofs.YticnjkdaccacaaaGreatDoor.Sx
end
