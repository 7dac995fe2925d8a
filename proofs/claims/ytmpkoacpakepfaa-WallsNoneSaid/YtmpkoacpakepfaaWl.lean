/- Logs among the things in memory, and their simple calls. -/
import Derived.Test.YtmpkoacpakepfaaSd
import Derived.Test.YtmpkoacpakepfaaFramesPlain
import Derived.Test.YtmpkoacpakepfaaRe
import Derived.IntWalk
namespace Go.Proofs.Ytmpkoacpakepfaa.Sx
open Go Go.RowKit Base Own Disk

def orcL : Orc := ⟨[(3, .int .i64), (5, .int .u8), (4, .bool), (22, .slice 5), (24, .pointer 40), (23, .pointer 28), (82, .pointer 26), (30, .int .i64), (34, .slice 22), (26, .struct #[Go.Field.mk "disk" 24 0 false "" "concordat/walls" 0, Go.Field.mk "at" 3 1 false "" "concordat/walls" 8]), (28, .struct #[Go.Field.mk "place" 26 0 true "" "concordat/walls" 0])],
  [(3, 1), (5, 1), (22, 1), (24, 1), (23, 1), (34, 1), (26, 2)]⟩
theorem orcL_ok : orcL.Ok Try.prog := ⟨⟨Try.underlying3, Try.underlying5, Try.underlying4, Try.underlying22, Try.underlying24, Try.underlying23, Try.underlying82, Try.underlying30, Try.underlying34, Try.underlying26, Try.underlying28, trivial⟩, ⟨by kernel_rfl, by kernel_rfl, by kernel_rfl, by kernel_rfl, by kernel_rfl, by kernel_rfl, by kernel_rfl, trivial⟩⟩
theorem enThere : Enters Try.prog 24 := fun _ _ => by kernel_rfl
theorem enLeft : Enters Try.prog 26 := fun _ _ => by kernel_rfl
theorem enPut : Enters Try.prog 25 := fun _ _ => by kernel_rfl
theorem enGet : Enters Try.prog 40 := fun _ _ => by kernel_rfl
theorem enSize : Enters Try.prog 28 := fun _ _ => by kernel_rfl
theorem enRead : Enters Try.prog 23 := fun _ _ => by kernel_rfl
theorem enWrite : Enters Try.prog 22 := fun _ _ => by kernel_rfl
theorem enSync : Enters Try.prog 27 := fun _ _ => by kernel_rfl
theorem enEqual : Enters Try.prog 30 := fun _ _ => by kernel_rfl
theorem enFound : Enters Try.prog 29 := fun _ _ => by kernel_rfl
theorem enFound1 : Enters Try.prog 39 := fun _ _ => by kernel_rfl
theorem litB : RowTy Try.prog 22 5 .u8 := ⟨Try.underlying22, 1, by decide, by kernel_rfl⟩
theorem infoB : (Try.prog.info? 5).map (·.size) = some 1 := by kernel_rfl
/-- A log: over which disk, and the sector behind all records. -/
def logA (g d : Nat) (x : Int) : Asn := stA 28 g [.pointer (some ⟨d, 0, none⟩), .int .i64 x]
section
variable {w w0 : World} {g d : Nat} {x : Int} {D : Dk} {R : List Asn}
theorem there_call (S : Sat w0 w (logA g d x :: R)) : Calls Try.prog 24 #[.pointer (some ⟨g, 0, none⟩)] w fun e w' => e = .returned (.bool true) ∧ w' = w := by
  refine calls_start (N := 13) [.pointer (some ⟨g, 0, none⟩)] Try.func24 rfl rfl rfl (vok_c rfl rfl) fun a fr => ?_
  skip; (repeat (with_reducible refine wp_seq ?_)); refine wp_region_lit ?_
  refine wl_run orcL_ok 1 rfl fr fun a fr => ?_
  refine wpList_nil ?_; (repeat (with_reducible refine then_n ?_))
  skip; (repeat (with_reducible refine wp_seq ?_)); refine wp_region_lit ?_
  refine wl_run orcL_ok 7 rfl fr fun a fr => ?_
  refine wl_ldf orcL_ok (Sat.stAt S 0 rfl (j := 0) rfl) fr rfl rfl rfl rfl rfl rfl rfl fun a fr => ?_
  refine wl_run orcL_ok 3 rfl fr fun a fr => ?_
  refine wpList_nil ?_; (repeat (with_reducible refine then_n ?_))
  refine wp_ret ?_
  refine ret1 fr rfl rfl ?_
  exact ⟨rfl, rfl⟩
theorem left_call (S : Sat w0 w (logA g d x :: diskA d D :: R)) (hx : 0 ≤ x ∧ x ≤ 1000000) : Calls Try.prog 26 #[.pointer (some ⟨g, 0, none⟩)] w fun e w' => e = .returned (.int .i64 ((D.seen.length : Int) - x)) ∧ Sat w0 w' (logA g d x :: diskA d D :: R) := by
  have hm := (disk_seen (S.frontAt 1 rfl)).most
  refine calls_start (N := 13) [.pointer (some ⟨g, 0, none⟩)] Try.func26 rfl rfl rfl (vok_c rfl rfl) fun a fr => ?_
  skip; (repeat (with_reducible refine wp_seq ?_)); refine wp_region_lit ?_
  refine wl_run orcL_ok 1 rfl fr fun a fr => ?_
  refine wpList_nil ?_; (repeat (with_reducible refine then_n ?_))
  skip; (repeat (with_reducible refine wp_seq ?_))
  refine wp_region_sl [.one (0, true, some 3), .one (1, true, some 4), .one (2, true, some 5), .one (3, true, some 6), .one (5, true, some 8), .one (6, true, some 9), .one (7, true, some 10), .one (8, true, some 11), .one (4, false, some 7), .one (9, true, some 12), .one (10, true, some 2)]
                [.one ⟨true, some 3, (Go.Op.move (Go.Operand.tmp 0)), 82, none⟩,
                .one ⟨true, some 4, (Go.Op.nilCheck (Go.Operand.tmp 3)), 0, none⟩,
                .one ⟨true, some 5, (Go.Op.fieldAddr 26 (Go.Operand.tmp 4) 0), 0, none⟩,
                .one ⟨true, some 6, (Go.Op.load 24 (Go.Operand.tmp 5)), 24, none⟩,
                .one ⟨true, some 8, (Go.Op.move (Go.Operand.tmp 0)), 82, none⟩,
                .one ⟨true, some 9, (Go.Op.nilCheck (Go.Operand.tmp 8)), 0, none⟩,
                .one ⟨true, some 10, (Go.Op.fieldAddr 26 (Go.Operand.tmp 9) 1), 0, none⟩,
                .one ⟨true, some 11, (Go.Op.load 3 (Go.Operand.tmp 10)), 3, none⟩,
                .one ⟨false, some 7, (Go.Op.call { callee := (Go.Callee.value (Go.Operand.func 28)), args := #[(Go.Operand.tmp 6)], argTypes := #[24] }), 3, none⟩,
                .one ⟨true, some 12, (Go.Op.binOp Go.BinOp.sub 3 (Go.Operand.tmp 7) (Go.Operand.tmp 11) 3), 3, none⟩,
                .one ⟨true, some 2, (Go.Op.assign (Go.Operand.tmp 12)), 3, none⟩]
                (fun w' => Sat w0 w' (logA g d x :: diskA d D :: R)) rfl (by kernel_rfl) (by kernel_rfl) ?_ ?_
  · exact S.drew
  have S := S.drew
  refine sl_run orcL_ok 3 rfl fr fun a fr => ?_
  refine sl_ldf orcL_ok (fun w' S => Sat.stAt S 0 rfl (j := 0) rfl) fr rfl rfl rfl rfl rfl rfl rfl rfl S fun a fr => ?_
  refine sl_run orcL_ok 3 rfl fr fun a fr => ?_
  refine sl_ldf orcL_ok (fun w' S => Sat.stAt S 0 rfl (j := 1) rfl) fr rfl rfl rfl rfl rfl rfl rfl rfl S fun a fr => ?_
  refine sl_call fr rfl rfl rfl rfl rfl enSize (disk_size (S.frontAt 1 rfl)) ?_
  rintro _ w ⟨rfl, hw⟩
  subst hw
  refine ⟨_, rfl, vok_small hm, S, fun a fr => ?_⟩
  refine sl_run orcL_ok 2 rfl fr fun a fr => ?_
  refine sl_end ?_
  have fr := fr.spell (d := 2) rfl (congrArg (Value.int .i64) (show IntKind.wrap .i64 ((D.seen.length : Int) - x) = (D.seen.length : Int) - x from IntWalk.i64_in _ ⟨by omega, by omega⟩))
  refine wp_ret ?_
  refine ret1 fr rfl rfl ?_
  exact ⟨rfl, S⟩
theorem force_call (S : Sat w0 w (logA g d x :: diskA d D :: R)) : Calls Try.prog 12 #[.pointer (some ⟨g, 0, none⟩)] w fun e w' => e = .returned (.int .i64 0) ∧ Sat w0 w' (logA g d x :: diskA d D.sync :: R) := by
  refine calls_start (N := 12) [.pointer (some ⟨g, 0, none⟩)] Try.func12 rfl rfl rfl (vok_c rfl rfl) fun a fr => ?_
  skip; (repeat (with_reducible refine wp_seq ?_)); refine wp_region_lit ?_
  refine wl_run orcL_ok 1 rfl fr fun a fr => ?_
  refine wpList_nil ?_; (repeat (with_reducible refine then_n ?_))
  skip; (repeat (with_reducible refine wp_seq ?_)); refine wp_region_lit ?_
  refine wl_run orcL_ok 1 rfl fr fun a fr => ?_
  refine wl_call fr rfl rfl rfl rfl enThere (there_call S) ?_
  rintro _ w ⟨rfl, hw⟩
  subst hw
  refine ⟨_, rfl, rfl, fun a fr => ?_⟩
  refine wl_run orcL_ok 1 rfl fr fun a fr => ?_
  refine wpList_nil ?_; (repeat (with_reducible refine then_n ?_))
  skip; (repeat (with_reducible refine wp_seq ?_))
  refine cw_f fr rfl ?_
  refine wp_skip ?_
  (with_reducible refine then_n ?_)
  skip; (repeat (with_reducible refine wp_seq ?_)); refine wp_region_lit ?_
  refine wl_run orcL_ok 4 rfl fr fun a fr => ?_
  refine wl_ldf orcL_ok (Sat.stAt S 0 rfl (j := 0) rfl) fr rfl rfl rfl rfl rfl rfl rfl fun a fr => ?_
  refine wl_call fr rfl rfl rfl rfl enSync (disk_sync (S.frontAt 1 rfl)) ?_
  rintro _ w ⟨rfl, S⟩
  refine ⟨_, rfl, rfl, fun a fr => ?_⟩
  refine wl_run orcL_ok 1 rfl fr fun a fr => ?_
  refine wpList_nil ?_; (repeat (with_reducible refine then_n ?_))
  refine wp_ret ?_
  refine ret1 fr rfl rfl ?_
  exact ⟨rfl, S.frontAt 1 rfl⟩
/-! ### Frames -/
theorem bts_rk {w : World} {A : Option Addr} {l : List Int} (h : Rk .u8 w A l) : Sums.Bts l := h.bytes
theorem put_call {A : Option Addr} {c : Nat} {l : List Int} (rk : Rk .u8 w A l) (hl : l.length ≤ 16384) (S : Sat w0 w R) :
    Calls Try.prog 25 #[.slice A l.length c] w fun e w' => ∃ A' c', e = .returned (.tuple #[.slice A' (Frames.put l).length c', .int .i64 0]) ∧ vok (.tuple #[.slice A' (Frames.put l).length c', .int .i64 0]) = true ∧ Sat w0 w' (ownA .u8 5 A' c' (Frames.put l) :: R) := by
  refine (Frames.put_any A c l w hl (bts_rk rk) rk.rd).mono ?_
  rintro e w' ⟨v, rfl, h1, h2⟩
  obtain ⟨A', c', rfl, h3, h4⟩ := S.row h2 h1 (bts_wf (Frames.put_bts (bts_rk rk)))
  exact ⟨A', c', rfl, by
    have h5 : vokC (.slice A' (Frames.put l).length c') = true := h3
    show [_, _].all vokC = true
    rw [List.all_cons, h5]; rfl, h4⟩
theorem put_no {A : Option Addr} {c n : Nat} (hl : 16384 < n) (h2 : n ≤ 1000000000) (S : Sat w0 w R) :
    Calls Try.prog 25 #[.slice A n c] w fun e w' => e = .returned (.tuple #[.slice none 0 0, .int .i64 3]) ∧ Sat w0 w' R :=
  (Frames.put_big A n c w hl h2).mono fun e w' ⟨h1, h2⟩ => ⟨h1, S.new h2⟩
def roomF (D : Dk) (x n : Int) : Bool := decide (0 ≤ n ∧ n ≤ 16384 ∧ (Frames.nsec n.toNat : Int) ≤ (D.seen.length : Int) - x)
set_option maxRecDepth 100000 in
theorem room_call (S : Sat w0 w (logA g d x :: diskA d D :: R)) (hx : 0 ≤ x ∧ x ≤ 1000000) {n : Int} (hn : (Lit.int .i64 n).wf = true) : Calls Try.prog 13 #[.pointer (some ⟨g, 0, none⟩), .int .i64 n] w fun e w' => e = .returned (.bool (roomF D x n)) ∧ Sat w0 w' (logA g d x :: diskA d D :: R) := by
  have hm := (disk_seen (S.frontAt 1 rfl)).most
  refine calls_start (N := 36) [.pointer (some ⟨g, 0, none⟩), .int .i64 n] Try.func13 rfl rfl rfl (vok_c rfl (vok_c hn rfl)) fun a fr => ?_
  skip; (repeat (with_reducible refine wp_seq ?_)); refine wp_region_lit ?_
  refine wl_run orcL_ok 1 rfl fr fun a fr => ?_
  refine wpList_nil ?_; (repeat (with_reducible refine then_n ?_))
  skip; (repeat (with_reducible refine wp_seq ?_)); refine wp_region_lit ?_
  refine wl_run orcL_ok 1 rfl fr fun a fr => ?_
  refine wl_call fr rfl rfl rfl rfl enThere (there_call S) ?_
  rintro _ w ⟨rfl, hw⟩
  subst hw
  refine ⟨_, rfl, rfl, fun a fr => ?_⟩
  refine wl_run orcL_ok 6 rfl fr fun a fr => ?_
  by_cases h0 : n < 0
  · have fr := fr.bool (d := 14) rfl (decide_eq_true h0)
    refine wl_run orcL_ok 3 rfl fr fun a fr => ?_
    refine wpList_nil ?_; (repeat (with_reducible refine then_n ?_))
    skip; (repeat (with_reducible refine wp_seq ?_))
    refine cw_t fr rfl ?_
    skip; (repeat (with_reducible refine wp_seq ?_)); refine wp_region_lit ?_
    refine wl_run orcL_ok 1 rfl fr fun a fr => ?_
    refine wpList_nil ?_; (repeat (with_reducible refine then_n ?_))
    refine wp_ret ?_
    skip; (repeat (first | (with_reducible refine then_r ?_) | (with_reducible refine blk_r ?_) | (with_reducible refine ng_r ?_)))
    refine ret1 fr rfl rfl ?_
    exact ⟨by unfold roomF; rw [decide_eq_false (by omega)], S⟩
  have fr := fr.bool (d := 14) rfl (decide_eq_false h0)
  refine wl_run orcL_ok 3 rfl fr fun a fr => ?_
  refine wpList_nil ?_; (repeat (with_reducible refine then_n ?_))
  by_cases h1 : n > 16384
  · have fr := fr.bool (d := 17) rfl (decide_eq_true h1)
    skip; (repeat (with_reducible refine wp_seq ?_))
    refine cw_t fr rfl ?_
    skip; (repeat (with_reducible refine wp_seq ?_)); refine wp_region_lit ?_
    refine wl_run orcL_ok 1 rfl fr fun a fr => ?_
    refine wpList_nil ?_; (repeat (with_reducible refine then_n ?_))
    refine wp_ret ?_
    skip; (repeat (first | (with_reducible refine then_r ?_) | (with_reducible refine blk_r ?_) | (with_reducible refine ng_r ?_)))
    refine ret1 fr rfl rfl ?_
    exact ⟨by unfold roomF; rw [decide_eq_false (by omega)], S⟩
  have fr := fr.bool (d := 17) rfl (decide_eq_false h1)
  skip; (repeat (with_reducible refine wp_seq ?_))
  refine cw_f fr rfl ?_
  refine wp_skip ?_
  (with_reducible refine then_n ?_)
  skip; (repeat (with_reducible refine wp_seq ?_)); refine wp_region_lit ?_
  refine wl_run orcL_ok 1 rfl fr fun a fr => ?_
  refine wl_make litB fr rfl rfl rfl rfl rfl rfl ⟨by omega, by omega⟩ S ?_
  intro w A c S a fr
  have hl : (List.replicate n.toNat (0 : Int)).length = n.toNat := List.length_replicate
  refine wl_call fr rfl rfl rfl rfl enPut (put_call (Sat.ownAt S 0 rfl) (by omega) S) ?_
  rintro _ w ⟨A', c', rfl, hv, S⟩
  refine ⟨_, rfl, hv, fun a fr => ?_⟩
  have S := S.mask [false, false]
  refine wl_run orcL_ok 5 rfl fr fun a fr => ?_
  refine wpList_nil ?_; (repeat (with_reducible refine then_n ?_))
  skip; (repeat (with_reducible refine wp_seq ?_)); refine wp_region_lit ?_
  refine wl_run orcL_ok 8 rfl fr fun a fr => ?_
  refine wl_call fr rfl rfl rfl rfl enLeft (left_call S hx) ?_
  rintro _ w ⟨rfl, S⟩
  refine ⟨_, rfl, by
    show (Lit.int .i64 _).wf = true
    rw [wf_int]
    have h2 : IntKind.i64.min = -9223372036854775808 := by decide
    have h3 : IntKind.i64.max = 9223372036854775807 := by decide
    omega, fun a fr => ?_⟩
  have hw : IntKind.wrap .i64 (((D.seen.length : Int) - x) * 64) = ((D.seen.length : Int) - x) * 64 := IntWalk.i64_in _ ⟨by omega, by omega⟩
  refine wl_run orcL_ok 4 rfl fr fun a fr => ?_
  refine wpList_nil ?_; (repeat (with_reducible refine then_n ?_))
  refine wp_ret ?_
  refine ret1 fr rfl rfl ?_
  refine ⟨?_, S⟩
  show Ending.returned (Value.bool (decide (((Frames.put (List.replicate n.toNat (0 : Int))).length : Int) ≤ IntKind.wrap .i64 (((D.seen.length : Int) - x) * 64)))) = _
  rw [hw, Frames.put_length, hl]
  unfold roomF
  congr 2
  exact decide_eq_decide.2 (by omega)
/-! ### A record is added -/
def wrs (D : Dk) (x : Nat) : Nat → List Int → Dk
  | 0, _ => D
  | k + 1, b => wrs (D.writeR x (b.take 64)) (x + 1) k (b.drop 64)
def addE (D : Dk) (x : Nat) (l : List Int) : Int := if 16384 < l.length then 3 else if D.seen.length < x + Frames.nsec l.length then 5 else 0
def addX (D : Dk) (x : Nat) (l : List Int) : Nat := if addE D x l = 0 then x + Frames.nsec l.length else x
def addD (D : Dk) (x : Nat) (l : List Int) : Dk := if addE D x l = 0 then wrs D x (Frames.nsec l.length) (Frames.put l) else D
theorem writeR_waits (D : Dk) (x : Int) (b : List Int) : (D.writeR x b).waits.length ≤ D.waits.length + 1 := by
  unfold Dk.writeR
  split
  · simp [Dk.write]
  · omega
set_option maxRecDepth 100000 in
set_option maxHeartbeats 1000000 in
theorem add_call {x : Nat} (S : Sat w0 w (logA g d x :: diskA d D :: R)) {A : Option Addr} {c : Nat} {l : List Int} (rk : Rk .u8 w A l) (hm : l.length ≤ c ∧ c ≤ maxLen) (hl : l.length ≤ 1000000000) (hx : x ≤ 4096) (hw : D.waits.length ≤ 100000000) :
    Calls Try.prog 11 #[.pointer (some ⟨g, 0, none⟩), .slice A l.length c] w fun e w' => e = .returned (.int .i64 (addE D x l)) ∧ Sat w0 w' (logA g d (addX D x l) :: diskA d (addD D x l) :: R) := by
  have hsm := (disk_seen (S.frontAt 1 rfl)).most
  refine calls_start (N := 55) [.pointer (some ⟨g, 0, none⟩), .slice A l.length c] Try.func11 rfl rfl rfl (vok_c rfl (vok_c (vok_sl hm) rfl)) fun a fr => ?_
  skip; (repeat (with_reducible refine wp_seq ?_)); refine wp_region_lit ?_
  refine wl_run orcL_ok 1 rfl fr fun a fr => ?_
  refine wpList_nil ?_; (repeat (with_reducible refine then_n ?_))
  skip; (repeat (with_reducible refine wp_seq ?_)); refine wp_region_lit ?_
  refine wl_run orcL_ok 1 rfl fr fun a fr => ?_
  refine wl_call fr rfl rfl rfl rfl enThere (there_call S) ?_
  rintro _ w ⟨rfl, hw⟩
  subst hw
  refine ⟨_, rfl, rfl, fun a fr => ?_⟩
  refine wl_run orcL_ok 1 rfl fr fun a fr => ?_
  refine wpList_nil ?_; (repeat (with_reducible refine then_n ?_))
  skip; (repeat (with_reducible refine wp_seq ?_))
  refine cw_f fr rfl ?_
  refine wp_skip ?_
  (with_reducible refine then_n ?_)
  by_cases hbig : 16384 < l.length
  · have e3 : addE D x l = 3 := if_pos hbig
    skip; (repeat (with_reducible refine wp_seq ?_)); refine wp_region_lit ?_
    refine wl_run orcL_ok 1 rfl fr fun a fr => ?_
    refine wl_call fr rfl rfl rfl rfl enPut (put_no hbig hl S) ?_
    rintro _ w ⟨rfl, S⟩
    refine ⟨_, rfl, rfl, fun a fr => ?_⟩
    refine wl_run orcL_ok 5 rfl fr fun a fr => ?_
    refine wpList_nil ?_; (repeat (with_reducible refine then_n ?_))
    skip; (repeat (with_reducible refine wp_seq ?_))
    refine wp_block ?_
    skip; (repeat (with_reducible refine wp_seq ?_)); refine wp_region_lit ?_
    refine wl_run orcL_ok 3 rfl fr fun a fr => ?_
    refine wpList_nil ?_; (repeat (with_reducible refine then_n ?_))
    skip; (repeat (with_reducible refine wp_seq ?_))
    refine cw_t fr rfl ?_
    skip; (repeat (with_reducible refine wp_seq ?_)); refine wp_region_lit ?_
    refine wl_run orcL_ok 2 rfl fr fun a fr => ?_
    refine wpList_nil ?_; (repeat (with_reducible refine then_n ?_))
    refine wp_ret ?_
    skip; (repeat (first | (with_reducible refine then_r ?_) | (with_reducible refine blk_r ?_) | (with_reducible refine ng_r ?_)))
    refine ret1 fr rfl rfl ?_
    unfold addX addD
    rw [e3, if_neg (by decide), if_neg (by decide)]
    exact ⟨rfl, S⟩
  skip; (repeat (with_reducible refine wp_seq ?_)); refine wp_region_lit ?_
  refine wl_run orcL_ok 1 rfl fr fun a fr => ?_
  refine wl_call fr rfl rfl rfl rfl enPut (put_call rk (by omega) S) ?_
  rintro _ w ⟨A0, c0, rfl, hv, S⟩
  refine ⟨_, rfl, hv, fun a fr => ?_⟩
  refine wl_run orcL_ok 5 rfl fr fun a fr => ?_
  refine wpList_nil ?_; (repeat (with_reducible refine then_n ?_))
  have hpl := Frames.put_length l
  have hns : Frames.nsec l.length ≤ 300 := by unfold Frames.nsec; omega
  skip; (repeat (with_reducible refine wp_seq ?_))
  refine wp_block ?_
  skip; (repeat (with_reducible refine wp_seq ?_)); refine wp_region_lit ?_
  refine wl_run orcL_ok 3 rfl fr fun a fr => ?_
  refine wpList_nil ?_; (repeat (with_reducible refine then_n ?_))
  skip; (repeat (with_reducible refine wp_seq ?_))
  refine cw_f fr rfl ?_
  have S : Sat w0 w (logA g d x :: diskA d D :: ownA .u8 5 A0 c0 (Frames.put l) :: R) := (S.frontAt 2 rfl).frontAt 2 rfl
  skip; (repeat (with_reducible refine wp_seq ?_)); refine wp_region_lit ?_
  refine wl_run orcL_ok 5 rfl fr fun a fr => ?_
  refine wl_call fr rfl rfl rfl rfl enLeft (left_call S ⟨by omega, by omega⟩) ?_
  rintro _ w ⟨rfl, S⟩
  refine ⟨_, rfl, by
    show (Lit.int .i64 _).wf = true
    rw [wf_int]
    have h2 : IntKind.i64.min = -9223372036854775808 := by decide
    have h3 : IntKind.i64.max = 9223372036854775807 := by decide
    omega, fun a fr => ?_⟩
  have hwr : IntKind.wrap .i64 (((D.seen.length : Int) - x) * 64) = ((D.seen.length : Int) - x) * 64 := IntWalk.i64_in _ ⟨by omega, by omega⟩
  refine wl_run orcL_ok 3 rfl fr fun a fr => ?_
  refine wpList_nil ?_; (repeat (with_reducible refine then_n ?_))
  by_cases hfull : D.seen.length < x + Frames.nsec l.length
  · have e5 : addE D x l = 5 := by unfold addE; rw [if_neg hbig, if_pos hfull]
    have fr := fr.bool (d := 19) rfl (decide_eq_true (show ((Frames.put l).length : Int) > IntKind.wrap .i64 (((D.seen.length : Int) - x) * 64) by rw [hwr, hpl]; omega))
    skip; (repeat (with_reducible refine wp_seq ?_))
    refine cw_t fr rfl ?_
    skip; (repeat (with_reducible refine wp_seq ?_)); refine wp_region_lit ?_
    refine wl_run orcL_ok 1 rfl fr fun a fr => ?_
    refine wpList_nil ?_; (repeat (with_reducible refine then_n ?_))
    refine wp_ret ?_
    skip; (repeat (first | (with_reducible refine then_r ?_) | (with_reducible refine blk_r ?_) | (with_reducible refine ng_r ?_)))
    refine ret1 fr rfl rfl ?_
    unfold addX addD
    rw [e5, if_neg (by decide), if_neg (by decide)]
    exact ⟨rfl, S.mask [true, true, false]⟩
  have e0 : addE D x l = 0 := by unfold addE; rw [if_neg hbig, if_neg hfull]
  unfold addX addD
  rw [e0, if_pos rfl, if_pos rfl]
  have fr := fr.bool (d := 19) rfl (decide_eq_false (show ¬ ((Frames.put l).length : Int) > IntKind.wrap .i64 (((D.seen.length : Int) - x) * 64) by rw [hwr, hpl]; omega))
  skip; (repeat (with_reducible refine wp_seq ?_))
  refine cw_f fr rfl ?_
  refine wp_skip ?_
  (repeat (first | (with_reducible refine then_n ?_) | (with_reducible refine blk_n ?_) | (with_reducible refine ng_n ?_)))
  skip; (repeat (with_reducible refine wp_seq ?_))
  refine wp_block ?_
  obtain ⟨n, hn⟩ : ∃ n, n = Frames.nsec l.length := ⟨_, rfl⟩
  rw [← hn] at hpl hns hfull ⊢
  refine cw_loop (fun q a w => ∃ (k j : Nat) (D1 : Dk) (A1 : Option Addr) (c1 : Nat) (b : List Int), k + 1 = q ∧ j + k = n ∧ b.length = k * 64 ∧ wrs D1 (x + j) k b = wrs D x n (Frames.put l) ∧ D1.waits.length ≤ 100000000 + j ∧
      (∀ w, Rk .u8 w A0 (Frames.put l) → Rk .u8 w A1 b) ∧ (b.length ≤ c1 ∧ c1 ≤ maxLen) ∧
      Fr 55 a [(0, .pointer (some ⟨g, 0, none⟩)), (5, .slice A1 b.length c1)] ∧
      Sat w0 w (logA g d ((x + j : Nat) : Int) :: diskA d D1 :: ownA .u8 5 A0 c0 (Frames.put l) :: R)) (n + 1)
    ⟨n, 0, D, A0, c0, Frames.put l, rfl, by omega, hpl, rfl, by omega, fun _ h => h, (S.frontAt 2 rfl).own.2, fr.sub ⟨rfl, rfl, trivial⟩, S⟩ ?_ ?_
  · rintro a w ⟨k, j, D1, A1, c1, b, h, -⟩
    omega
  clear fr S
  rintro q a w ⟨k, j, D1, A1, c1, b, hk, hj, hb, hgo, hwt, hrd, hmc, fr, S⟩
  obtain rfl : q = k := by omega
  skip; (repeat (with_reducible refine wp_seq ?_)); refine wp_region_lit ?_
  refine wl_run orcL_ok 3 rfl fr fun a fr => ?_
  refine wpList_nil ?_; (repeat (with_reducible refine then_n ?_))
  cases q with
  | zero =>
    have fr := fr.bool (d := 30) rfl (decide_eq_false (show ¬ ((b.length : Nat) : Int) > 0 by omega))
    skip; (repeat (with_reducible refine wp_seq ?_))
    refine cw_f fr rfl ?_
    refine wp_exit ?_
    skip; (repeat (first | (with_reducible refine then_e ?_) | (with_reducible refine ng_e ?_) | (with_reducible refine blk_e (by decide) ?_))); (with_reducible refine blk_y ?_); (repeat (with_reducible refine then_n ?_))
    skip; (repeat (with_reducible refine wp_seq ?_)); refine wp_region_lit ?_
    refine wl_run orcL_ok 1 rfl fr fun a fr => ?_
    refine wpList_nil ?_; (repeat (with_reducible refine then_n ?_))
    refine wp_ret ?_
    skip; (repeat (first | (with_reducible refine then_r ?_) | (with_reducible refine blk_r ?_) | (with_reducible refine ng_r ?_)))
    refine ret1 fr rfl rfl ?_
    obtain rfl : j = n := by omega
    rw [← hgo]
    exact ⟨rfl, S.mask [true, true, false]⟩
  | succ k =>
    have fr := fr.bool (d := 30) rfl (decide_eq_true (show ((b.length : Nat) : Int) > 0 by omega))
    skip; (repeat (with_reducible refine wp_seq ?_))
    refine cw_t fr rfl ?_
    refine wp_skip ?_
    (with_reducible refine then_n ?_)
    skip; (repeat (with_reducible refine wp_seq ?_))
    refine wp_block ?_
    skip; (repeat (with_reducible refine wp_seq ?_))
    refine wp_region_sl [.one (0, true, some 33), .one (1, true, some 34), .one (2, true, some 35), .one (3, true, some 36), .one (4, true, some 37), .one (5, true, some 38), .one (6, true, some 39), .one (7, true, some 40), .one (8, true, some 41), .one (9, true, some 42), .one (10, true, some 43), .one (11, true, some 44), .one (12, false, some 45)]
                [.one ⟨true, some 33, (Go.Op.move (Go.Operand.tmp 0)), 23, none⟩,
                .one ⟨true, some 34, (Go.Op.nilCheck (Go.Operand.tmp 33)), 0, none⟩,
                .one ⟨true, some 35, (Go.Op.fieldAddr 28 (Go.Operand.tmp 34) 0), 0, none⟩,
                .one ⟨true, some 36, (Go.Op.fieldAddr 26 (Go.Operand.tmp 35) 0), 0, none⟩,
                .one ⟨true, some 37, (Go.Op.load 24 (Go.Operand.tmp 36)), 24, none⟩,
                .one ⟨true, some 38, (Go.Op.move (Go.Operand.tmp 0)), 23, none⟩,
                .one ⟨true, some 39, (Go.Op.nilCheck (Go.Operand.tmp 38)), 0, none⟩,
                .one ⟨true, some 40, (Go.Op.fieldAddr 28 (Go.Operand.tmp 39) 0), 0, none⟩,
                .one ⟨true, some 41, (Go.Op.fieldAddr 26 (Go.Operand.tmp 40) 1), 0, none⟩,
                .one ⟨true, some 42, (Go.Op.load 3 (Go.Operand.tmp 41)), 3, none⟩,
                .one ⟨true, some 43, (Go.Op.move (Go.Operand.tmp 5)), 22, none⟩,
                .one ⟨true, some 44, (Go.Op.slice 22 (Go.Operand.tmp 43) none (some (Go.Operand.const (Go.Value.int Go.IntKind.i64 64))) none), 22, none⟩,
                .one ⟨false, some 45, (Go.Op.call { callee := (Go.Callee.value (Go.Operand.func 22)), args := #[(Go.Operand.tmp 37), (Go.Operand.tmp 42), (Go.Operand.tmp 44)], argTypes := #[24, 3, 22] }), 30, none⟩]
                (fun w' => Sat w0 w' [logA g d ((x + j : Nat) : Int)]) rfl (by kernel_rfl) (by kernel_rfl) ?_ ?_
    · exact S.drew.firsts [_]
    have S := S.drew
    refine sl_run orcL_ok 4 rfl fr fun a fr => ?_
    refine sl_ldf orcL_ok (fun w' S => Sat.stAt S 0 rfl (j := 0) rfl) fr rfl rfl rfl rfl rfl rfl rfl rfl (S.firsts [_]) fun a fr => ?_
    refine sl_run orcL_ok 4 rfl fr fun a fr => ?_
    refine sl_ldf orcL_ok (fun w' S => Sat.stAt S 0 rfl (j := 1) rfl) fr rfl rfl rfl rfl rfl rfl rfl rfl (S.firsts [_]) fun a fr => ?_
    refine sl_run orcL_ok 1 rfl fr fun a fr => ?_
    refine sl_takeq orcL_ok fr rfl rfl rfl rfl rfl rfl rfl rfl rfl rfl ⟨by omega, by omega⟩ fun a fr => ?_
    have hS1 := S.frontAt 1 rfl
    refine sl_call fr rfl rfl rfl rfl rfl enWrite (disk_write hS1 _ ((hrd _ (Sat.ownAt S 2 rfl)).take 64) ⟨by omega, by rw [List.length_take]; omega⟩) ?_
    rintro _ w ⟨rfl, hv, S⟩
    have S : Sat w0 w (logA g d ((x + j : Nat) : Int) :: diskA d (D1.writeR ((x + j : Nat) : Int) (b.take 64)) :: ownA .u8 5 A0 c0 (Frames.put l) :: R) := S.frontAt 1 rfl
    refine ⟨_, rfl, hv, S.firsts [_], fun a fr => ?_⟩
    refine sl_end ?_
    (repeat (with_reducible refine then_n ?_))
    skip; (repeat (with_reducible refine wp_seq ?_)); refine wp_region_lit ?_
    refine wl_run orcL_ok 4 rfl fr fun a fr => ?_
    refine wl_ldf orcL_ok (Sat.stAt S 0 rfl (j := 1) rfl) fr rfl rfl rfl rfl rfl rfl rfl fun a fr => ?_
    refine wl_run orcL_ok 4 rfl fr fun a fr => ?_
    have fr := fr.spell (d := 51) rfl (congrArg (Value.int .i64) (show IntKind.wrap .i64 (((x + j : Nat) : Int) + 1) = ((x + (j + 1) : Nat) : Int) by rw [show IntKind.wrap .i64 (((x + j : Nat) : Int) + 1) = ((x + j : Nat) : Int) + 1 from IntWalk.i64_in _ ⟨by omega, by omega⟩]; omega))
    refine wl_stf orcL_ok fr rfl rfl rfl (j := 1) rfl rfl rfl rfl rfl S rfl ?_
    intro w S
    refine wpList_nil ?_; (repeat (with_reducible refine then_n ?_))
    (repeat (first | (with_reducible refine then_n ?_) | (with_reducible refine blk_n ?_) | (with_reducible refine ng_n ?_)))
    skip; (repeat (with_reducible refine wp_seq ?_)); refine wp_region_lit ?_
    refine wl_run orcL_ok 1 rfl fr fun a fr => ?_
    refine wl_drop orcL_ok fr rfl rfl rfl rfl rfl rfl rfl infoB rfl ⟨by omega, by omega⟩ fun a fr => ?_
    refine wl_run orcL_ok 1 rfl fr fun a fr => ?_
    refine wpList_nil ?_; (repeat (with_reducible refine then_n ?_))
    have hw1 := writeR_waits D1 ((x + j : Nat) : Int) (b.take 64)
    have h64 : Int.toNat 64 = 64 := rfl
    refine ⟨k, j + 1, D1.writeR ((x + j : Nat) : Int) (b.take 64), dropA A1 c1 64, c1 - 64, b.drop 64, rfl, by omega, by rw [List.length_drop]; omega, hgo, by omega, fun w hw => (hrd w hw).drop hmc.1, ⟨by rw [List.length_drop]; omega, by omega⟩, fr.sub ⟨rfl, rfl, trivial⟩, S⟩
end
end Go.Proofs.Ytmpkoacpakepfaa.Sx
